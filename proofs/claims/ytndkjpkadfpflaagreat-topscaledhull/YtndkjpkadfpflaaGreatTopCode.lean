/- Made by gen3.py: the code of the functions, compiled for the evaluator; each is that of the program, by evaluation. -/
import Derived.Test.YtndkjpkadfpflaaGreatProg
import Derived.Test.YtndkjpkadfpflaaGreatAEtwo
set_option linter.unusedVariables false
set_option linter.unusedSimpArgs false
set_option linter.unusedSectionVars false
namespace AE.Tryz
open Go AE Go.Proofs
set_option maxRecDepth 1000000
set_option maxHeartbeats 4000000
abbrev oo (d : Nat) (x : AOp) : AOper := ⟨some d, none, .op x⟩
abbrev og (d g : Nat) (b : Bool) (x : AOp) : AOper := ⟨some d, some (g, b), .op x⟩
abbrev oz (x : AOp) : AOper := ⟨none, none, .op x⟩
abbrev oc (d f : Nat) (l : List Opd) : AOper := ⟨some d, none, .call (.c (Value.func (.func f) #[] #[])) l⟩
abbrev ocg (d g : Nat) (b : Bool) (f : Nat) (l : List Opd) : AOper := ⟨some d, some (g, b), .call (.c (Value.func (.func f) #[] #[])) l⟩
abbrev om (d s : Nat) : AOper := ⟨some d, none, .op (.mv (.t s))⟩
abbrev z0 : Opd := .c (Value.int .i64 0)
abbrev z1 : Opd := .c (Value.int .i64 1)
abbrev k0 : Value := .int .i64 0
noncomputable def a6 : ACode := (.seq (.reg (
 oo 3 (.box (.t 0) 24) ::
oo 4 (.box (.t 1) 70) ::
oo 6 (.mv (.c (Value.bool false))) :: [])) (.seq (.seq (.reg (
 oo 33 (.faddr 2 (.t 3)) ::
oo 34 (.load1 (.t 33)) ::
oo 35 (.len (.t 34)) ::
oo 36 (.int .gtr (.t 35) (.c (Value.int .i64 12))) ::
om 37 36 ::
og 38 37 false (.loadn 3 (.t 3)) ::
ocg 39 37 false 7 [(.t 38)] ::
og 40 37 false (.int .neq (.t 39) z0) ::
oo 41 (.pick (.t 37) (.c (Value.bool true)) (.t 40)) ::
om 42 41 ::
og 43 42 false (.loadn 16 (.t 4)) ::
ocg 44 42 false 25 [(.t 43)] ::
og 45 42 false (.int .neq (.t 44) z0) ::
oo 46 (.pick (.t 42) (.c (Value.bool true)) (.t 45)) :: [])) (.cond (.t 46) (.seq (.reg (
 oc 47 20 [] ::
om 6 47 :: [])) .ret) .skip)) (.seq (.reg (
 oo 48 (.faddr 0 (.t 3)) ::
oo 49 (.load1 (.t 48)) ::
oo 50 (.faddr 2 (.t 3)) ::
oo 51 (.load1 (.t 50)) ::
oo 52 (.len (.t 51)) ::
oo 53 (.int .sub (.t 52) z1) ::
oo 54 (.int .mul (.t 49) (.t 53)) ::
oo 55 (.faddr 1 (.t 4)) ::
oz (.store 1 (.t 55) (.t 54)) :: [])) (.seq (.reg (
 oo 56 (.faddr 3 (.t 4)) ::
oo 57 (.load1 (.t 56)) ::
oo 58 (.faddr 3 (.t 4)) ::
oo 59 (.load1 (.t 58)) ::
oo 60 (.int .mul (.t 57) (.t 59)) ::
om 7 60 :: [])) (.seq (.reg (
 oo 61 (.faddr 0 (.t 3)) ::
oo 62 (.load1 (.t 61)) ::
om 63 7 ::
oo 64 (.int .mul (.t 62) (.t 63)) ::
oo 65 (.faddr 1 (.t 3)) ::
oo 66 (.load1 (.t 65)) ::
om 67 7 ::
oo 68 (.int .mul (.t 66) (.t 67)) ::
oo 69 (.build [k0, k0, Value.slice none 0 0] [(0, 1, (.t 64)), (1, 1, (.t 68))]) ::
oo 8 (.alloc [k0, k0, Value.slice none 0 0] 24) ::
oz (.store 3 (.t 8) (.t 69)) :: [])) (.seq (.seq (.reg (
 oo 9 (.mv z0) :: [])) (.block 0 (.loop (.seq (.seq (.reg (
 om 70 9 ::
oo 71 (.faddr 2 (.t 3)) ::
oo 72 (.load1 (.t 71)) ::
oo 73 (.len (.t 72)) ::
oo 74 (.int .lss (.t 70) (.t 73)) :: [])) (.cond (.t 74) .skip (.exit 0))) (.seq (.block 1 (.seq (.reg (
 oo 10 (.mv (.c (Value.slice none 0 0))) :: [])) (.seq (.seq (.reg (
 oo 11 (.mv z0) :: [])) (.block 2 (.loop (.seq (.seq (.reg (
 om 77 11 ::
oo 78 (.faddr 2 (.t 3)) ::
oo 79 (.load1 (.t 78)) ::
om 80 9 ::
oo 81 (.ixsl 1 (.t 79) (.t 80)) ::
oo 82 (.load1 (.t 81)) ::
oo 83 (.len (.t 82)) ::
oo 84 (.int .lss (.t 77) (.t 83)) :: [])) (.cond (.t 84) .skip (.exit 2))) (.seq (.block 3 (.dreg (
 om 87 10 ::
oo 88 (.faddr 2 (.t 3)) ::
oo 89 (.load1 (.t 88)) ::
om 90 9 ::
oo 91 (.ixsl 1 (.t 89) (.t 90)) ::
oo 92 (.load1 (.t 91)) ::
om 93 11 ::
oo 94 (.ixsl 2 (.t 92) (.t 93)) ::
oo 95 (.faddr 0 (.t 94)) ::
oo 96 (.load1 (.t 95)) ::
om 97 7 ::
oo 98 (.int .mul (.t 96) (.t 97)) ::
oo 99 (.faddr 2 (.t 3)) ::
oo 100 (.load1 (.t 99)) ::
om 101 9 ::
oo 102 (.ixsl 1 (.t 100) (.t 101)) ::
oo 103 (.load1 (.t 102)) ::
om 104 11 ::
oo 105 (.ixsl 2 (.t 103) (.t 104)) ::
oo 106 (.faddr 1 (.t 105)) ::
oo 107 (.load1 (.t 106)) ::
om 108 7 ::
oo 109 (.int .mul (.t 107) (.t 108)) ::
oo 110 (.build [k0, k0] [(0, 1, (.t 98)), (1, 1, (.t 109))]) ::
oo 111 (.bslice [k0, k0] [(0, 2, (.t 110))] 1 36) ::
oo 112 (.append 36 2 16 (.t 87) (.t 111)) ::
om 10 112 :: []) [])) (.reg (
 om 85 11 ::
oo 86 (.int .add (.t 85) z1) ::
om 11 86 :: []))))))) (.reg (
 oo 113 (.faddr 2 (.t 8)) ::
oo 114 (.load1 (.t 113)) ::
om 115 10 ::
oo 116 (.bslice [Value.slice none 0 0] [(0, 1, (.t 115))] 1 31) ::
oo 117 (.append 31 1 24 (.t 114) (.t 116)) ::
oo 118 (.faddr 2 (.t 8)) ::
oz (.store 1 (.t 118) (.t 117)) :: []))))) (.reg (
 om 75 9 ::
oo 76 (.int .add (.t 75) z1) ::
om 9 76 :: []))))))) (.seq (.reg (
 oo 119 (.loadn 16 (.t 4)) ::
oo 12 (.alloc [k0, k0, k0, k0, k0, k0, k0, k0, k0, k0, k0, k0, k0, k0, k0, k0] 70) ::
oz (.store 16 (.t 12) (.t 119)) :: [])) (.seq (.dreg (
 oo 120 (.faddr 1 (.t 4)) ::
oo 121 (.load1 (.t 120)) ::
om 122 7 ::
oo 123 (.int .mul (.t 121) (.t 122)) ::
oo 124 (.faddr 0 (.t 4)) ::
oo 125 (.load1 (.t 124)) ::
oo 126 (.faddr 3 (.t 4)) ::
oo 127 (.load1 (.t 126)) ::
oo 128 (.int .mul (.t 125) (.t 127)) ::
oo 129 (.faddr 8 (.t 4)) ::
oo 130 (.loadn 2 (.t 129)) ::
oo 131 (.faddr 1 (.t 12)) ::
oz (.store 1 (.t 131) (.t 123)) ::
oo 132 (.faddr 0 (.t 12)) ::
oz (.store 1 (.t 132) (.t 128)) ::
oo 133 (.faddr 3 (.t 12)) ::
oz (.store 1 (.t 133) z1) ::
oo 134 (.faddr 6 (.t 12)) ::
oz (.store 2 (.t 134) (.t 130)) :: []) [((.t 124), (.t 131)), ((.t 126), (.t 131)), ((.t 129), (.t 131)), ((.t 129), (.t 132)), ((.t 129), (.t 133))]) (.seq (.seq (.reg (
 oo 135 (.loadn 16 (.t 4)) ::
oc 136 25 [(.t 135)] ::
oo 137 (.int .eql (.t 136) z0) ::
om 138 137 ::
og 139 138 true (.loadn 16 (.t 12)) ::
ocg 140 138 true 25 [(.t 139)] ::
og 141 138 true (.int .eql (.t 140) z0) ::
oo 142 (.pick (.t 138) (.t 141) (.c (Value.bool false))) :: [])) (.cond (.t 142) (.seq (.reg (
 oo 144 (.loadn 16 (.t 4)) ::
oc 145 31 [(.t 144)] ::
om 143 145 ::
oo 146 (.extract (.t 143) 0) ::
oo 147 (.extract (.t 143) 1) ::
oo 148 (.extract (.t 143) 2) ::
oo 13 (.alloc [k0, k0] 36) ::
oo 14 (.alloc [k0, k0] 36) ::
oz (.store 2 (.t 13) (.t 146)) ::
oz (.store 2 (.t 14) (.t 147)) ::
om 15 148 :: [])) (.seq (.reg (
 oo 150 (.loadn 16 (.t 12)) ::
oc 151 31 [(.t 150)] ::
om 149 151 ::
oo 152 (.extract (.t 149) 0) ::
oo 153 (.extract (.t 149) 1) ::
oo 154 (.extract (.t 149) 2) ::
oo 16 (.alloc [k0, k0] 36) ::
oo 17 (.alloc [k0, k0] 36) ::
oz (.store 2 (.t 16) (.t 152)) ::
oz (.store 2 (.t 17) (.t 153)) ::
om 18 154 :: [])) (.seq (.reg (
 om 155 15 ::
oo 156 (.int .neq (.t 155) z0) ::
om 157 156 ::
og 158 157 false (.mv (.t 18)) ::
og 159 157 false (.int .neq (.t 158) z0) ::
oo 160 (.pick (.t 157) (.c (Value.bool true)) (.t 159)) ::
om 161 160 ::
og 162 161 false (.loadn 2 (.t 14)) ::
og 163 161 false (.loadn 2 (.t 16)) ::
og 164 161 false (.pure (rawOp Tryz.f6 20 9)) ::
oo 165 (.pick (.t 161) (.c (Value.bool true)) (.t 164)) :: [])) (.cond (.t 165) (.seq (.reg (
 oo 6 (.mv (.c (Value.bool false))) :: [])) .ret) .skip)))) .skip)) (.seq (.seq (.reg (
 oo 166 (.loadn 3 (.t 8)) ::
oc 167 7 [(.t 166)] ::
oo 168 (.int .neq (.t 167) z0) :: [])) (.cond (.t 168) (.seq (.reg (
 oc 169 20 [] ::
om 6 169 :: [])) .ret) .skip)) (.seq (.reg (
 om 170 2 ::
oo 171 (.conv .i64 (.t 170)) ::
oo 172 (.idiv false (.t 171) (.c (Value.int .i64 3))) ::
om 19 172 :: [])) (.seq (.reg (
 oo 174 (.loadn 3 (.t 3)) ::
oc 175 15 [(.t 174)] ::
om 173 175 ::
oo 176 (.extract (.t 173) 0) ::
oo 177 (.extract (.t 173) 1) ::
oo 20 (.alloc [k0, k0, k0, k0] 48) ::
oz (.store 4 (.t 20) (.t 176)) ::
om 21 177 :: [])) (.seq (.reg (
 oo 179 (.loadn 3 (.t 8)) ::
oc 180 15 [(.t 179)] ::
om 178 180 ::
oo 181 (.extract (.t 178) 0) ::
oo 182 (.extract (.t 178) 1) ::
oo 22 (.alloc [k0, k0, k0, k0] 48) ::
oz (.store 4 (.t 22) (.t 181)) ::
om 23 182 :: [])) (.seq (.reg (
 oo 184 (.loadn 3 (.t 3)) ::
om 185 19 ::
oc 186 16 [(.t 184), (.t 185)] ::
om 183 186 ::
oo 187 (.extract (.t 183) 0) ::
oo 188 (.extract (.t 183) 1) ::
oo 24 (.alloc [k0, k0, k0, k0] 48) ::
oz (.store 4 (.t 24) (.t 187)) ::
om 25 188 :: [])) (.seq (.reg (
 oo 190 (.loadn 3 (.t 3)) ::
om 191 19 ::
oc 192 32 [(.t 190), (.t 191), (.c (Value.bool false))] ::
om 189 192 ::
oo 193 (.extract (.t 189) 0) ::
oo 194 (.extract (.t 189) 1) ::
om 26 193 ::
om 27 194 :: [])) (.seq (.seq (.reg (
 om 195 21 ::
oo 196 (.int .neq (.t 195) z0) ::
om 197 196 ::
og 198 197 false (.mv (.t 23)) ::
og 199 197 false (.int .neq (.t 198) z0) ::
oo 200 (.pick (.t 197) (.c (Value.bool true)) (.t 199)) ::
om 201 200 ::
og 202 201 false (.mv (.t 25)) ::
og 203 201 false (.int .neq (.t 202) z0) ::
oo 204 (.pick (.t 201) (.c (Value.bool true)) (.t 203)) ::
om 205 204 ::
og 206 205 false (.mv (.t 27)) ::
og 207 205 false (.int .neq (.t 206) z0) ::
oo 208 (.pick (.t 205) (.c (Value.bool true)) (.t 207)) ::
om 209 208 ::
og 210 209 false (.loadn 3 (.t 3)) ::
og 211 209 false (.mv (.t 26)) ::
ocg 212 209 false 33 [(.t 210), (.t 211)] ::
og 213 209 false (.int .neq (.t 212) z0) ::
oo 214 (.pick (.t 209) (.c (Value.bool true)) (.t 213)) :: [])) (.cond (.t 214) (.seq (.reg (
 oo 6 (.mv (.c (Value.bool false))) :: [])) .ret) .skip)) (.seq (.seq (.reg (
 oo 28 (.mv z0) :: [])) (.block 4 (.loop (.seq (.seq (.reg (
 om 215 28 ::
om 216 26 ::
oo 217 (.len (.t 216)) ::
oo 218 (.int .lss (.t 215) (.t 217)) :: [])) (.cond (.t 218) .skip (.exit 4))) (.seq (.block 5 (.seq (.reg (
 oo 29 (.mv z0) :: [])) (.block 6 (.loop (.seq (.seq (.reg (
 om 221 29 ::
om 222 26 ::
om 223 28 ::
oo 224 (.ixsl 1 (.t 222) (.t 223)) ::
oo 225 (.load1 (.t 224)) ::
oo 226 (.len (.t 225)) ::
oo 227 (.int .lss (.t 221) (.t 226)) :: [])) (.cond (.t 227) .skip (.exit 6))) (.seq (.block 7 (.reg (
 om 230 26 ::
om 231 28 ::
oo 232 (.ixsl 1 (.t 230) (.t 231)) ::
oo 233 (.load1 (.t 232)) ::
om 234 29 ::
oo 235 (.ixsl 1 (.t 233) (.t 234)) ::
oo 236 (.load1 (.t 235)) ::
om 237 7 ::
oo 238 (.int .mul (.t 236) (.t 237)) ::
oo 239 (.ixsl 1 (.t 233) (.t 234)) ::
oz (.store 1 (.t 239) (.t 238)) :: []))) (.reg (
 om 228 29 ::
oo 229 (.int .add (.t 228) z1) ::
om 29 229 :: [])))))))) (.reg (
 om 219 28 ::
oo 220 (.int .add (.t 219) z1) ::
om 28 220 :: []))))))) (.seq (.reg (
 oo 241 (.loadn 3 (.t 8)) ::
om 242 26 ::
om 243 19 ::
oc 244 14 [(.t 241), (.t 242), (.t 243)] ::
om 240 244 ::
oo 245 (.extract (.t 240) 0) ::
oo 246 (.extract (.t 240) 1) ::
oo 30 (.alloc [k0, k0] 27) ::
oz (.store 2 (.t 30) (.t 245)) ::
om 31 246 :: [])) (.seq (.reg (
 om 247 7 ::
om 248 7 ::
oo 249 (.int .mul (.t 247) (.t 248)) ::
om 250 7 ::
oo 251 (.int .mul (.t 249) (.t 250)) ::
om 32 251 :: [])) (.seq (.dreg (
 om 252 31 ::
oo 253 (.int .eql (.t 252) z0) ::
om 254 253 ::
og 255 254 true (.faddr 0 (.t 20)) ::
og 256 254 true (.faddr 1 (.t 255)) ::
og 257 254 true (.load1 (.t 256)) ::
og 258 254 true (.int .geq (.t 257) z1) ::
oo 259 (.pick (.t 254) (.t 258) (.c (Value.bool false))) ::
om 260 259 ::
og 261 260 true (.faddr 2 (.t 20)) ::
og 262 260 true (.faddr 1 (.t 261)) ::
og 263 260 true (.load1 (.t 262)) ::
og 264 260 true (.int .geq (.t 263) z1) ::
oo 265 (.pick (.t 260) (.t 264) (.c (Value.bool false))) ::
om 266 265 ::
og 267 266 true (.faddr 0 (.t 22)) ::
og 268 266 true (.loadn 2 (.t 267)) ::
og 269 266 true (.faddr 0 (.t 20)) ::
og 270 266 true (.faddr 0 (.t 269)) ::
og 271 266 true (.load1 (.t 270)) ::
og 272 266 true (.mv (.t 32)) ::
og 273 266 true (.int .mul (.t 271) (.t 272)) ::
og 274 266 true (.faddr 0 (.t 20)) ::
og 275 266 true (.faddr 1 (.t 274)) ::
og 276 266 true (.load1 (.t 275)) ::
ocg 277 266 true 34 [(.t 273), (.t 276)] ::
og 278 266 true (.pure (rawOp Tryz.f6 40 26)) ::
oo 279 (.pick (.t 266) (.t 278) (.c (Value.bool false))) ::
om 280 279 ::
og 281 280 true (.faddr 2 (.t 22)) ::
og 282 280 true (.loadn 2 (.t 281)) ::
og 283 280 true (.faddr 2 (.t 20)) ::
og 284 280 true (.faddr 0 (.t 283)) ::
og 285 280 true (.load1 (.t 284)) ::
og 286 280 true (.mv (.t 32)) ::
og 287 280 true (.int .mul (.t 285) (.t 286)) ::
og 288 280 true (.faddr 2 (.t 20)) ::
og 289 280 true (.faddr 1 (.t 288)) ::
og 290 280 true (.load1 (.t 289)) ::
ocg 291 280 true 34 [(.t 287), (.t 290)] ::
og 292 280 true (.pure (rawOp Tryz.f6 40 40)) ::
oo 293 (.pick (.t 280) (.t 292) (.c (Value.bool false))) ::
om 294 293 ::
og 295 294 true (.faddr 0 (.t 24)) ::
og 296 294 true (.faddr 1 (.t 295)) ::
og 297 294 true (.load1 (.t 296)) ::
og 298 294 true (.int .geq (.t 297) z1) ::
oo 299 (.pick (.t 294) (.t 298) (.c (Value.bool false))) ::
om 300 299 ::
og 301 300 true (.loadn 2 (.t 30)) ::
og 302 300 true (.faddr 0 (.t 24)) ::
og 303 300 true (.faddr 0 (.t 302)) ::
og 304 300 true (.load1 (.t 303)) ::
og 305 300 true (.mv (.t 7)) ::
og 306 300 true (.int .mul (.t 304) (.t 305)) ::
og 307 300 true (.faddr 0 (.t 24)) ::
og 308 300 true (.faddr 1 (.t 307)) ::
og 309 300 true (.load1 (.t 308)) ::
ocg 310 300 true 34 [(.t 306), (.t 309)] ::
og 311 300 true (.pure (rawOp Tryz.f6 40 59)) ::
oo 312 (.pick (.t 300) (.t 311) (.c (Value.bool false))) ::
om 313 312 ::
ocg 314 313 true 20 [] ::
oo 315 (.pick (.t 313) (.t 314) (.c (Value.bool false))) ::
om 6 315 :: []) []) .ret))))))))))))))))))))
def r6 : List ResultVar := [.tmp 6]
theorem fun6 : Fun Tryz.prog 6 316 3 a6 r6 :=
  ⟨rfl, Tryz.f6, _, rfl, rfl, rfl, by decide, rfl, rfl, rfl⟩
noncomputable def a7 : ACode := (.seq (.reg (
 oo 1 (.box (.t 0) 24) ::
oo 2 (.mv z0) :: [])) (.seq (.reg (
 oo 9 (.faddr 2 (.t 1)) ::
oo 10 (.load1 (.t 9)) ::
oo 11 (.len (.t 10)) ::
om 3 11 :: [])) (.seq (.seq (.reg (
 om 12 3 ::
oo 13 (.int .lss (.t 12) (.c (Value.int .i64 2))) ::
om 14 13 ::
og 15 14 false (.mv (.t 3)) ::
og 16 14 false (.int .gtr (.t 15) (.c (Value.int .i64 10))) ::
oo 17 (.pick (.t 14) (.c (Value.bool true)) (.t 16)) ::
om 18 17 ::
og 19 18 false (.faddr 2 (.t 1)) ::
og 20 18 false (.load1 (.t 19)) ::
og 21 18 false (.ixsl 1 (.t 20) z0) ::
og 22 18 false (.load1 (.t 21)) ::
og 23 18 false (.len (.t 22)) ::
og 24 18 false (.int .lss (.t 23) (.c (Value.int .i64 2))) ::
oo 25 (.pick (.t 18) (.c (Value.bool true)) (.t 24)) ::
om 26 25 ::
og 27 26 false (.faddr 2 (.t 1)) ::
og 28 26 false (.load1 (.t 27)) ::
og 29 26 false (.ixsl 1 (.t 28) z0) ::
og 30 26 false (.load1 (.t 29)) ::
og 31 26 false (.len (.t 30)) ::
og 32 26 false (.int .gtr (.t 31) (.c (Value.int .i64 6))) ::
oo 33 (.pick (.t 26) (.c (Value.bool true)) (.t 32)) :: [])) (.cond (.t 33) (.seq (.reg (
 oo 2 (.mv (.c (Value.int .i64 6))) :: [])) .ret) .skip)) (.seq (.seq (.reg (
 oo 4 (.mv z0) :: [])) (.block 0 (.loop (.seq (.seq (.reg (
 om 34 4 ::
om 35 3 ::
oo 36 (.int .lss (.t 34) (.t 35)) :: [])) (.cond (.t 36) .skip (.exit 0))) (.seq (.block 1 (.seq (.dreg (
 oo 39 (.faddr 2 (.t 1)) ::
oo 40 (.load1 (.t 39)) ::
om 41 4 ::
oo 42 (.ixsl 1 (.t 40) (.t 41)) ::
oo 43 (.load1 (.t 42)) ::
oo 44 (.len (.t 43)) ::
oo 45 (.faddr 2 (.t 1)) ::
oo 46 (.load1 (.t 45)) ::
oo 47 (.ixsl 1 (.t 46) z0) ::
oo 48 (.load1 (.t 47)) ::
oo 49 (.len (.t 48)) ::
oo 50 (.int .neq (.t 44) (.t 49)) :: []) []) (.cond (.t 50) (.seq (.reg (
 oo 2 (.mv (.c (Value.int .i64 15))) :: [])) .ret) .skip))) (.reg (
 om 37 4 ::
oo 38 (.int .add (.t 37) z1) ::
om 4 38 :: []))))))) (.seq (.seq (.reg (
 oo 51 (.faddr 0 (.t 1)) ::
oo 52 (.load1 (.t 51)) ::
oo 53 (.int .lss (.t 52) z1) ::
om 54 53 ::
og 55 54 false (.faddr 0 (.t 1)) ::
og 56 54 false (.load1 (.t 55)) ::
og 57 54 false (.int .gtr (.t 56) (.c (Value.int .i64 1000))) ::
oo 58 (.pick (.t 54) (.c (Value.bool true)) (.t 57)) ::
om 59 58 ::
og 60 59 false (.faddr 1 (.t 1)) ::
og 61 59 false (.load1 (.t 60)) ::
og 62 59 false (.int .lss (.t 61) z1) ::
oo 63 (.pick (.t 59) (.c (Value.bool true)) (.t 62)) ::
om 64 63 ::
og 65 64 false (.faddr 1 (.t 1)) ::
og 66 64 false (.load1 (.t 65)) ::
og 67 64 false (.int .gtr (.t 66) (.c (Value.int .i64 100))) ::
oo 68 (.pick (.t 64) (.c (Value.bool true)) (.t 67)) :: [])) (.cond (.t 68) (.seq (.reg (
 oo 2 (.mv (.c (Value.int .i64 2))) :: [])) .ret) .skip)) (.seq (.reg (
 oo 5 (.mv (.c (Value.bool false))) :: [])) (.seq (.seq (.reg (
 oo 6 (.mv z0) :: [])) (.block 2 (.loop (.seq (.seq (.reg (
 om 69 6 ::
om 70 3 ::
oo 71 (.int .lss (.t 69) (.t 70)) :: [])) (.cond (.t 71) .skip (.exit 2))) (.seq (.block 3 (.seq (.reg (
 oo 7 (.mv z0) :: [])) (.block 4 (.loop (.seq (.seq (.reg (
 om 74 7 ::
oo 75 (.faddr 2 (.t 1)) ::
oo 76 (.load1 (.t 75)) ::
om 77 6 ::
oo 78 (.ixsl 1 (.t 76) (.t 77)) ::
oo 79 (.load1 (.t 78)) ::
oo 80 (.len (.t 79)) ::
oo 81 (.int .lss (.t 74) (.t 80)) :: [])) (.cond (.t 81) .skip (.exit 4))) (.seq (.block 5 (.seq (.reg (
 oo 84 (.faddr 2 (.t 1)) ::
oo 85 (.load1 (.t 84)) ::
om 86 6 ::
oo 87 (.ixsl 1 (.t 85) (.t 86)) ::
oo 88 (.load1 (.t 87)) ::
om 89 7 ::
oo 90 (.ixsl 2 (.t 88) (.t 89)) ::
oo 91 (.loadn 2 (.t 90)) ::
oo 8 (.alloc [k0, k0] 36) ::
oz (.store 2 (.t 8) (.t 91)) :: [])) (.seq (.seq (.reg (
 oo 92 (.faddr 0 (.t 8)) ::
oo 93 (.load1 (.t 92)) ::
oo 94 (.int .lss (.t 93) z0) ::
om 95 94 ::
og 96 95 false (.faddr 0 (.t 8)) ::
og 97 95 false (.load1 (.t 96)) ::
og 98 95 false (.faddr 1 (.t 8)) ::
og 99 95 false (.load1 (.t 98)) ::
og 100 95 false (.int .gtr (.t 97) (.t 99)) ::
oo 101 (.pick (.t 95) (.c (Value.bool true)) (.t 100)) ::
om 102 101 ::
og 103 102 false (.faddr 1 (.t 8)) ::
og 104 102 false (.load1 (.t 103)) ::
og 105 102 false (.int .gtr (.t 104) (.c (Value.int .i64 500))) ::
oo 106 (.pick (.t 102) (.c (Value.bool true)) (.t 105)) ::
om 107 106 ::
og 108 107 false (.faddr 1 (.t 8)) ::
og 109 107 false (.load1 (.t 108)) ::
og 110 107 false (.faddr 0 (.t 8)) ::
og 111 107 false (.load1 (.t 110)) ::
og 112 107 false (.int .sub (.t 109) (.t 111)) ::
og 113 107 false (.int .gtr (.t 112) (.c (Value.int .i64 20))) ::
oo 114 (.pick (.t 107) (.c (Value.bool true)) (.t 113)) :: [])) (.cond (.t 114) (.seq (.reg (
 oo 2 (.mv (.c (Value.int .i64 2))) :: [])) .ret) .skip)) (.reg (
 om 115 5 ::
om 116 115 ::
og 117 116 false (.faddr 0 (.t 8)) ::
og 118 116 false (.load1 (.t 117)) ::
og 119 116 false (.int .gtr (.t 118) z0) ::
oo 120 (.pick (.t 116) (.c (Value.bool true)) (.t 119)) ::
om 5 120 :: []))))) (.reg (
 om 82 7 ::
oo 83 (.int .add (.t 82) z1) ::
om 7 83 :: [])))))))) (.reg (
 om 72 6 ::
oo 73 (.int .add (.t 72) z1) ::
om 6 73 :: []))))))) (.seq (.seq (.reg (
 om 121 5 ::
oo 122 (.not (.t 121)) :: [])) (.cond (.t 122) (.seq (.reg (
 oo 2 (.mv (.c (Value.int .i64 2))) :: [])) .ret) .skip)) (.seq (.reg (
 oo 2 (.mv z0) :: [])) .ret)))))))))
def r7 : List ResultVar := [.tmp 2]
theorem fun7 : Fun Tryz.prog 7 123 1 a7 r7 :=
  ⟨rfl, Tryz.f7, _, rfl, rfl, rfl, by decide, rfl, rfl, rfl⟩
noncomputable def a10 : ACode := (.seq (.reg (
 oo 1 (.box (.t 0) 34) ::
oo 2 (.mv (.c (Value.slice none 0 0))) ::
oo 3 (.mv z0) ::
oo 4 (.mv z0) :: [])) (.seq (.seq (.reg (
 oo 8 (.loadn 2 (.t 1)) ::
oc 9 38 [(.t 8)] ::
om 5 9 :: [])) (.seq (.reg (
 om 10 5 ::
oo 11 (.int .neq (.t 10) z0) :: [])) (.cond (.t 11) (.seq (.reg (
 om 12 5 ::
oo 2 (.mv (.c (Value.slice none 0 0))) ::
oo 3 (.mv z0) ::
om 4 12 :: [])) .ret) .skip))) (.seq (.reg (
 oo 14 (.loadn 2 (.t 1)) ::
oo 15 (.faddr 1 (.t 1)) ::
oo 16 (.load1 (.t 15)) ::
oc 17 39 [(.t 14), z1, (.t 16)] ::
oc 18 40 [(.t 17)] ::
om 13 18 ::
oo 19 (.extract (.t 13) 0) ::
oo 20 (.extract (.t 13) 1) ::
om 6 19 ::
om 7 20 :: [])) (.seq (.reg (
 om 21 6 ::
om 22 7 ::
om 2 21 ::
om 3 22 ::
oo 4 (.mv z0) :: [])) .ret))))
def r10 : List ResultVar := [.tmp 2, .tmp 3, .tmp 4]
theorem fun10 : Fun Tryz.prog 10 23 1 a10 r10 :=
  ⟨rfl, Tryz.f10, _, rfl, rfl, rfl, by decide, rfl, rfl, rfl⟩
noncomputable def a12 : ACode := (.seq (.reg (
 oo 2 (.box (.t 0) 24) ::
oo 4 (.mv z0) :: [])) (.seq (.seq (.reg (
 oo 11 (.loadn 3 (.t 2)) ::
oc 12 42 [(.t 11)] ::
om 5 12 :: [])) (.seq (.reg (
 om 13 5 ::
oo 14 (.int .neq (.t 13) z0) :: [])) (.cond (.t 14) (.seq (.reg (
 om 15 5 ::
om 4 15 :: [])) .ret) .skip))) (.seq (.seq (.reg (
 om 16 1 ::
oo 17 (.len (.t 16)) ::
oo 18 (.faddr 2 (.t 2)) ::
oo 19 (.load1 (.t 18)) ::
oo 20 (.len (.t 19)) ::
oo 21 (.int .neq (.t 17) (.t 20)) :: [])) (.cond (.t 21) (.seq (.reg (
 oo 4 (.mv (.c (Value.int .i64 15))) :: [])) .ret) .skip)) (.seq (.reg (
 oo 6 (.mv z0) :: [])) (.seq (.seq (.reg (
 om 22 1 ::
oo 23 (.len (.t 22)) ::
oo 24 (.mv z0) :: [])) (.block 0 (.loop (.seq (.reg (
 oo 25 (.int .lss (.t 24) (.t 23)) :: [])) (.seq (.cond (.t 25) .skip (.exit 0)) (.seq (.block 1 (.seq (.reg (
 om 26 24 ::
oo 27 (.ixsl 1 (.t 22) (.t 24)) ::
oo 28 (.load1 (.t 27)) ::
om 7 26 ::
om 8 28 :: [])) (.seq (.seq (.reg (
 om 29 8 ::
oo 30 (.len (.t 29)) ::
oo 31 (.faddr 2 (.t 2)) ::
oo 32 (.load1 (.t 31)) ::
om 33 7 ::
oo 34 (.ixsl 1 (.t 32) (.t 33)) ::
oo 35 (.load1 (.t 34)) ::
oo 36 (.len (.t 35)) ::
oo 37 (.int .neq (.t 30) (.t 36)) :: [])) (.cond (.t 37) (.seq (.reg (
 oo 4 (.mv (.c (Value.int .i64 15))) :: [])) .ret) .skip)) (.seq (.reg (
 om 38 8 ::
oo 39 (.len (.t 38)) ::
oo 40 (.mv z0) :: [])) (.block 2 (.loop (.seq (.reg (
 oo 41 (.int .lss (.t 40) (.t 39)) :: [])) (.seq (.cond (.t 41) .skip (.exit 2)) (.seq (.block 3 (.seq (.reg (
 om 42 40 ::
oo 43 (.ixsl 1 (.t 38) (.t 40)) ::
oo 44 (.load1 (.t 43)) ::
om 9 42 ::
om 10 44 :: [])) (.seq (.dreg (
 oo 45 (.faddr 2 (.t 2)) ::
oo 46 (.load1 (.t 45)) ::
om 47 7 ::
oo 48 (.ixsl 1 (.t 46) (.t 47)) ::
oo 49 (.load1 (.t 48)) ::
om 50 9 ::
oo 51 (.ixsl 2 (.t 49) (.t 50)) ::
oo 52 (.faddr 0 (.t 51)) ::
oo 53 (.load1 (.t 52)) ::
oo 54 (.faddr 2 (.t 2)) ::
oo 55 (.load1 (.t 54)) ::
om 56 7 ::
oo 57 (.ixsl 1 (.t 55) (.t 56)) ::
oo 58 (.load1 (.t 57)) ::
om 59 9 ::
oo 60 (.ixsl 2 (.t 58) (.t 59)) ::
oo 61 (.faddr 1 (.t 60)) ::
oo 62 (.load1 (.t 61)) ::
om 63 10 ::
oo 64 (.bslice [k0] [(0, 1, (.t 63))] 1 2) ::
oc 65 43 [(.t 53), (.t 62), (.t 64)] ::
oo 66 (.not (.t 65)) :: []) []) (.cond (.t 66) (.reg (
 oo 6 (.mv (.c (Value.int .i64 3))) :: [])) .skip)))) (.reg (
 oo 67 (.int .add (.t 40) z1) ::
om 40 67 :: []))))))))))) (.reg (
 oo 68 (.int .add (.t 24) z1) ::
om 24 68 :: [])))))))) (.seq (.reg (
 om 69 6 ::
om 4 69 :: [])) .ret))))))
def r12 : List ResultVar := [.tmp 4]
theorem fun12 : Fun Tryz.prog 12 70 2 a12 r12 :=
  ⟨rfl, Tryz.f12, _, rfl, rfl, rfl, by decide, rfl, rfl, rfl⟩
noncomputable def a13 : ACode := (.seq (.reg (
 oo 2 (.box (.t 0) 24) ::
oo 4 (.alloc [k0, k0] 27) ::
oo 5 (.mv z0) :: [])) (.seq (.seq (.reg (
 oo 7 (.loadn 3 (.t 2)) ::
om 8 1 ::
oc 9 12 [(.t 7), (.t 8)] ::
om 6 9 :: [])) (.seq (.reg (
 om 10 6 ::
oo 11 (.int .neq (.t 10) z0) :: [])) (.cond (.t 11) (.seq (.reg (
 oo 12 (.build [k0, k0] []) ::
om 13 6 ::
oz (.store 2 (.t 4) (.t 12)) ::
om 5 13 :: [])) .ret) .skip))) (.seq (.reg (
 oo 14 (.loadn 3 (.t 2)) ::
om 15 1 ::
oc 16 44 [(.t 14), (.t 15)] ::
oz (.store 2 (.t 4) (.t 16)) ::
oo 5 (.mv z0) :: [])) .ret)))
def r13 : List ResultVar := [.cell 4 27, .tmp 5]
theorem fun13 : Fun Tryz.prog 13 17 2 a13 r13 :=
  ⟨rfl, Tryz.f13, _, rfl, rfl, rfl, by decide, rfl, rfl, rfl⟩
noncomputable def a14 : ACode := (.seq (.reg (
 oo 3 (.box (.t 0) 24) ::
oo 6 (.alloc [k0, k0] 27) ::
oo 7 (.mv z0) :: [])) (.seq (.seq (.reg (
 oo 11 (.loadn 3 (.t 3)) ::
om 12 1 ::
oc 13 12 [(.t 11), (.t 12)] ::
om 8 13 :: [])) (.seq (.reg (
 om 14 8 ::
oo 15 (.int .neq (.t 14) z0) :: [])) (.cond (.t 15) (.seq (.reg (
 oo 16 (.build [k0, k0] []) ::
om 17 8 ::
oz (.store 2 (.t 6) (.t 16)) ::
om 7 17 :: [])) .ret) .skip))) (.seq (.reg (
 oo 19 (.loadn 3 (.t 3)) ::
om 20 2 ::
oc 21 45 [(.t 19), (.t 20)] ::
om 18 21 ::
oo 22 (.extract (.t 18) 0) ::
oo 23 (.extract (.t 18) 1) ::
om 9 22 ::
om 10 23 :: [])) (.seq (.seq (.reg (
 om 24 10 ::
oo 25 (.int .neq (.t 24) z0) :: [])) (.cond (.t 25) (.seq (.reg (
 oo 26 (.build [k0, k0] []) ::
om 27 10 ::
oz (.store 2 (.t 6) (.t 26)) ::
om 7 27 :: [])) .ret) .skip)) (.seq (.reg (
 om 28 9 ::
om 29 1 ::
oc 30 46 [(.t 28), (.t 29)] ::
oz (.store 2 (.t 6) (.t 30)) ::
oo 7 (.mv z0) :: [])) .ret)))))
def r14 : List ResultVar := [.cell 6 27, .tmp 7]
theorem fun14 : Fun Tryz.prog 14 31 3 a14 r14 :=
  ⟨rfl, Tryz.f14, _, rfl, rfl, rfl, by decide, rfl, rfl, rfl⟩
noncomputable def a15 : ACode := (.seq (.reg (
 oo 1 (.box (.t 0) 24) ::
oo 2 (.alloc [k0, k0, k0, k0] 48) ::
oo 3 (.mv z0) :: [])) (.seq (.seq (.reg (
 oo 7 (.loadn 3 (.t 1)) ::
oc 8 42 [(.t 7)] ::
om 4 8 :: [])) (.seq (.reg (
 om 9 4 ::
oo 10 (.int .neq (.t 9) z0) :: [])) (.cond (.t 10) (.seq (.reg (
 oo 11 (.build [k0, k0, k0, k0] []) ::
om 12 4 ::
oz (.store 4 (.t 2) (.t 11)) ::
om 3 12 :: [])) .ret) .skip))) (.seq (.reg (
 oo 13 (.loadn 3 (.t 1)) ::
oc 14 47 [(.t 13), (.c (Value.func (.func 48) #[] #[]))] ::
om 5 14 :: [])) (.seq (.reg (
 oo 15 (.loadn 3 (.t 1)) ::
oc 16 47 [(.t 15), (.c (Value.func (.func 49) #[] #[]))] ::
om 6 16 :: [])) (.seq (.dreg (
 oo 17 (.loadn 3 (.t 1)) ::
om 18 5 ::
oc 19 44 [(.t 17), (.t 18)] ::
oo 20 (.loadn 3 (.t 1)) ::
om 21 6 ::
oc 22 44 [(.t 20), (.t 21)] ::
oo 23 (.build [k0, k0, k0, k0] [(0, 2, (.t 19)), (2, 2, (.t 22))]) ::
oz (.store 4 (.t 2) (.t 23)) ::
oo 3 (.mv z0) :: []) []) .ret)))))
def r15 : List ResultVar := [.cell 2 48, .tmp 3]
theorem fun15 : Fun Tryz.prog 15 24 1 a15 r15 :=
  ⟨rfl, Tryz.f15, _, rfl, rfl, rfl, by decide, rfl, rfl, rfl⟩
noncomputable def a16 : ACode := (.seq (.reg (
 oo 2 (.box (.t 0) 24) ::
oo 4 (.alloc [k0, k0, k0, k0] 48) ::
oo 5 (.mv z0) :: [])) (.seq (.reg (
 oo 13 (.loadn 3 (.t 2)) ::
om 14 1 ::
oc 15 45 [(.t 13), (.t 14)] ::
om 12 15 ::
oo 16 (.extract (.t 12) 0) ::
oo 17 (.extract (.t 12) 1) ::
om 6 16 ::
om 7 17 :: [])) (.seq (.seq (.reg (
 om 18 7 ::
oo 19 (.int .neq (.t 18) z0) :: [])) (.cond (.t 19) (.seq (.reg (
 oo 20 (.build [k0, k0, k0, k0] []) ::
om 21 7 ::
oz (.store 4 (.t 4) (.t 20)) ::
om 5 21 :: [])) .ret) .skip)) (.seq (.reg (
 om 23 6 ::
oc 24 50 [(.t 23), (.c (Value.int .i64 (-1)))] ::
om 22 24 ::
oo 25 (.extract (.t 22) 0) ::
oo 26 (.extract (.t 22) 1) ::
oo 9 (.alloc [k0, k0] 27) ::
om 8 25 ::
oz (.store 2 (.t 9) (.t 26)) :: [])) (.seq (.reg (
 om 28 6 ::
oc 29 50 [(.t 28), z1] ::
om 27 29 ::
oo 30 (.extract (.t 27) 0) ::
oo 31 (.extract (.t 27) 1) ::
oo 11 (.alloc [k0, k0] 27) ::
om 10 30 ::
oz (.store 2 (.t 11) (.t 31)) :: [])) (.seq (.reg (
 oo 32 (.loadn 2 (.t 9)) ::
oo 33 (.loadn 2 (.t 11)) ::
oo 34 (.build [k0, k0, k0, k0] [(0, 2, (.t 32)), (2, 2, (.t 33))]) ::
oz (.store 4 (.t 4) (.t 34)) ::
oo 5 (.mv z0) :: [])) .ret))))))
def r16 : List ResultVar := [.cell 4 48, .tmp 5]
theorem fun16 : Fun Tryz.prog 16 35 2 a16 r16 :=
  ⟨rfl, Tryz.f16, _, rfl, rfl, rfl, by decide, rfl, rfl, rfl⟩
noncomputable def a18 : ACode := (.seq (.reg (
 oo 4 (.box (.t 0) 24) ::
oo 6 (.box (.t 2) 27) ::
oo 8 (.mv z0) :: [])) (.seq (.reg (
 oo 15 (.loadn 3 (.t 4)) ::
om 16 1 ::
oc 17 45 [(.t 15), (.t 16)] ::
om 14 17 ::
oo 18 (.extract (.t 14) 0) ::
oo 19 (.extract (.t 14) 1) ::
om 9 18 ::
om 10 19 :: [])) (.seq (.block 0 (.seq (.reg (
 om 21 10 ::
oo 22 (.int .neq (.t 21) z0) ::
om 20 22 :: [])) (.cond (.t 20) (.seq (.reg (
 om 23 10 ::
om 8 23 :: [])) .ret) (.seq (.dreg (
 oo 25 (.faddr 0 (.t 6)) ::
oo 26 (.load1 (.t 25)) ::
oo 27 (.int .lss (.t 26) z0) ::
om 28 27 ::
og 29 28 false (.faddr 0 (.t 6)) ::
og 30 28 false (.load1 (.t 29)) ::
og 31 28 false (.int .gtr (.t 30) (.c (Value.int .i64 100000000000))) ::
oo 32 (.pick (.t 28) (.c (Value.bool true)) (.t 31)) ::
om 33 32 ::
og 34 33 false (.faddr 1 (.t 6)) ::
og 35 33 false (.load1 (.t 34)) ::
og 36 33 false (.int .lss (.t 35) z1) ::
oo 37 (.pick (.t 33) (.c (Value.bool true)) (.t 36)) ::
om 38 37 ::
og 39 38 false (.faddr 1 (.t 6)) ::
og 40 38 false (.load1 (.t 39)) ::
og 41 38 false (.int .gtr (.t 40) (.c (Value.int .i64 100000000))) ::
oo 42 (.pick (.t 38) (.c (Value.bool true)) (.t 41)) ::
om 43 42 ::
og 44 43 false (.faddr 0 (.t 6)) ::
og 45 43 false (.load1 (.t 44)) ::
og 46 43 false (.faddr 1 (.t 6)) ::
og 47 43 false (.load1 (.t 46)) ::
ocg 48 43 false 51 [(.t 45), (.t 47)] ::
og 49 43 false (.loadn 2 (.t 6)) ::
og 50 43 false (.pure (rawOp Tryz.f18 4 25)) ::
oo 51 (.pick (.t 43) (.c (Value.bool true)) (.t 50)) ::
om 24 51 :: []) []) (.cond (.t 24) (.seq (.reg (
 oo 8 (.mv (.c (Value.int .i64 2))) :: [])) .ret) .skip))))) (.seq (.reg (
 oo 11 (.mv (.c (Value.int .i64 (-1)))) :: [])) (.seq (.seq (.reg (
 om 52 3 :: [])) (.cond (.t 52) (.reg (
 oo 11 (.mv z1) :: [])) .skip)) (.seq (.seq (.reg (
 om 54 9 ::
oo 55 (.loadn 2 (.t 6)) ::
om 56 11 ::
oc 57 52 [(.t 54), (.t 55), (.t 56)] ::
om 53 57 ::
oo 58 (.extract (.t 53) 0) ::
oo 59 (.extract (.t 53) 1) ::
om 12 58 ::
om 13 59 :: [])) (.seq (.reg (
 om 60 11 ::
om 61 13 ::
oo 62 (.int .mul (.t 60) (.t 61)) ::
oo 63 (.int .gtr (.t 62) z0) :: [])) (.cond (.t 63) (.seq (.reg (
 oo 8 (.mv (.c (Value.int .i64 14))) :: [])) .ret) .skip))) (.seq (.reg (
 oo 8 (.mv z0) :: [])) .ret)))))))
def r18 : List ResultVar := [.tmp 8]
theorem fun18 : Fun Tryz.prog 18 64 4 a18 r18 :=
  ⟨rfl, Tryz.f18, _, rfl, rfl, rfl, by decide, rfl, rfl, rfl⟩
noncomputable def a20 : ACode := (.seq (.reg (
 oo 0 (.mv (.c (Value.bool false))) :: [])) (.seq (.reg (
 oc 1 35 [] ::
om 2 1 ::
ocg 3 2 true 36 [] ::
oo 4 (.pick (.t 2) (.t 3) (.c (Value.bool false))) ::
om 5 4 ::
ocg 6 5 true 37 [] ::
oo 7 (.pick (.t 5) (.t 6) (.c (Value.bool false))) ::
om 8 7 ::
ocg 9 8 true 54 [] ::
oo 10 (.pick (.t 8) (.t 9) (.c (Value.bool false))) ::
om 0 10 :: [])) .ret))
def r20 : List ResultVar := [.tmp 0]
theorem fun20 : Fun Tryz.prog 20 11 0 a20 r20 :=
  ⟨rfl, Tryz.f20, _, rfl, rfl, rfl, by decide, rfl, rfl, rfl⟩
noncomputable def a22 : ACode := (.seq (.reg (
 oo 2 (.box (.t 0) 59) ::
oo 4 (.mv z0) ::
oo 5 (.mv z0) :: [])) (.seq (.seq (.reg (
 oo 8 (.loadn 2 (.t 2)) ::
oc 9 56 [(.t 8)] ::
om 6 9 :: [])) (.seq (.reg (
 om 10 6 ::
oo 11 (.int .neq (.t 10) z0) :: [])) (.cond (.t 11) (.seq (.reg (
 om 12 6 ::
oo 4 (.mv z0) ::
om 5 12 :: [])) .ret) .skip))) (.seq (.reg (
 oo 13 (.loadn 2 (.t 2)) ::
oo 14 (.build [Value.slice none 0 0, Value.slice none 0 0] [(0, 2, (.t 13))]) ::
oo 7 (.alloc [Value.slice none 0 0, Value.slice none 0 0] 106) ::
oz (.store 2 (.t 7) (.t 14)) :: [])) (.seq (.seq (.reg (
 oo 15 (.loadn 2 (.t 7)) ::
om 16 1 ::
om 17 1 ::
oo 18 (.build [k0, k0] [(0, 1, (.t 16)), (1, 1, (.t 17))]) ::
oc 19 57 [(.t 15), (.t 18)] ::
oo 20 (.not (.t 19)) :: [])) (.cond (.t 20) (.seq (.reg (
 oo 4 (.mv z0) ::
oo 5 (.mv (.c (Value.int .i64 19))) :: [])) .ret) .skip)) (.seq (.reg (
 oo 21 (.loadn 2 (.t 7)) ::
om 22 1 ::
oc 23 58 [(.t 21), (.t 22)] ::
om 4 23 ::
oo 5 (.mv z0) :: [])) .ret)))))
def r22 : List ResultVar := [.tmp 4, .tmp 5]
theorem fun22 : Fun Tryz.prog 22 24 2 a22 r22 :=
  ⟨rfl, Tryz.f22, _, rfl, rfl, rfl, by decide, rfl, rfl, rfl⟩
noncomputable def a23 : ACode := (.seq (.reg (
 oo 2 (.mv z0) ::
oo 3 (.mv z0) ::
oo 4 (.mv z0) :: [])) (.seq (.block 0 (.seq (.reg (
 om 8 0 ::
oo 9 (.len (.t 8)) ::
oo 10 (.int .eql (.t 9) z0) ::
om 11 10 ::
og 12 11 false (.mv (.t 0)) ::
og 13 11 false (.len (.t 12)) ::
og 14 11 false (.int .gtr (.t 13) (.c (Value.int .i64 4096))) ::
oo 15 (.pick (.t 11) (.c (Value.bool true)) (.t 14)) ::
om 7 15 :: [])) (.cond (.t 7) (.seq (.reg (
 oo 2 (.mv z0) ::
oo 3 (.mv z0) ::
oo 4 (.mv (.c (Value.int .i64 6))) :: [])) .ret) (.seq (.reg (
 om 17 0 ::
oc 18 59 [(.c (Value.int .i64 (-1000000))), (.c (Value.int .i64 1000000)), (.t 17)] ::
oo 19 (.not (.t 18)) ::
om 16 19 :: [])) (.cond (.t 16) (.seq (.reg (
 oo 2 (.mv z0) ::
oo 3 (.mv z0) ::
oo 4 (.mv (.c (Value.int .i64 3))) :: [])) .ret) .skip))))) (.seq (.reg (
 om 21 0 ::
oc 22 60 [(.t 21)] ::
om 20 22 ::
oo 23 (.extract (.t 20) 0) ::
oo 24 (.extract (.t 20) 1) ::
om 5 23 ::
om 6 24 :: [])) (.seq (.reg (
 om 25 5 ::
om 26 6 ::
om 2 25 ::
om 3 26 ::
oo 4 (.mv z0) :: [])) .ret))))
def r23 : List ResultVar := [.tmp 2, .tmp 3, .tmp 4]
theorem fun23 : Fun Tryz.prog 23 27 1 a23 r23 :=
  ⟨rfl, Tryz.f23, _, rfl, rfl, rfl, by decide, rfl, rfl, rfl⟩
noncomputable def a25 : ACode := (.seq (.reg (
 oo 1 (.box (.t 0) 70) ::
oo 2 (.mv z0) :: [])) (.seq (.seq (.reg (
 oo 3 (.faddr 0 (.t 1)) ::
oo 4 (.load1 (.t 3)) ::
oc 5 55 [(.t 4), z1, (.c (Value.int .i64 10000))] ::
oo 6 (.not (.t 5)) ::
om 7 6 ::
og 8 7 false (.faddr 1 (.t 1)) ::
og 9 7 false (.load1 (.t 8)) ::
ocg 10 7 false 55 [(.t 9), z1, (.c (Value.int .i64 10000))] ::
og 11 7 false (.not (.t 10)) ::
oo 12 (.pick (.t 7) (.c (Value.bool true)) (.t 11)) ::
om 13 12 ::
og 14 13 false (.faddr 2 (.t 1)) ::
og 15 13 false (.load1 (.t 14)) ::
ocg 16 13 false 55 [(.t 15), z1, (.c (Value.int .i64 1000000))] ::
og 17 13 false (.not (.t 16)) ::
oo 18 (.pick (.t 13) (.c (Value.bool true)) (.t 17)) ::
om 19 18 ::
og 20 19 false (.faddr 3 (.t 1)) ::
og 21 19 false (.load1 (.t 20)) ::
ocg 22 19 false 55 [(.t 21), z1, (.c (Value.int .i64 10))] ::
og 23 19 false (.not (.t 22)) ::
oo 24 (.pick (.t 19) (.c (Value.bool true)) (.t 23)) ::
om 25 24 ::
og 26 25 false (.faddr 4 (.t 1)) ::
og 27 25 false (.loadn 2 (.t 26)) ::
ocg 28 25 false 62 [(.t 27), z0, (.c (Value.int .i64 100000000))] ::
og 29 25 false (.not (.t 28)) ::
oo 30 (.pick (.t 25) (.c (Value.bool true)) (.t 29)) ::
om 31 30 ::
og 32 31 false (.faddr 6 (.t 1)) ::
og 33 31 false (.loadn 2 (.t 32)) ::
ocg 34 31 false 62 [(.t 33), (.c (Value.int .i64 500)), (.c (Value.int .i64 3000))] ::
og 35 31 false (.not (.t 34)) ::
oo 36 (.pick (.t 31) (.c (Value.bool true)) (.t 35)) ::
om 37 36 ::
og 38 37 false (.faddr 8 (.t 1)) ::
og 39 37 false (.loadn 2 (.t 38)) ::
ocg 40 37 false 62 [(.t 39), (.c (Value.int .i64 500)), (.c (Value.int .i64 3000))] ::
og 41 37 false (.not (.t 40)) ::
oo 42 (.pick (.t 37) (.c (Value.bool true)) (.t 41)) ::
om 43 42 ::
og 44 43 false (.faddr 10 (.t 1)) ::
og 45 43 false (.loadn 2 (.t 44)) ::
ocg 46 43 false 62 [(.t 45), z0, (.c (Value.int .i64 1000))] ::
og 47 43 false (.not (.t 46)) ::
oo 48 (.pick (.t 43) (.c (Value.bool true)) (.t 47)) ::
om 49 48 ::
og 50 49 false (.faddr 12 (.t 1)) ::
og 51 49 false (.loadn 2 (.t 50)) ::
ocg 52 49 false 62 [(.t 51), z0, (.c (Value.int .i64 200))] ::
og 53 49 false (.not (.t 52)) ::
oo 54 (.pick (.t 49) (.c (Value.bool true)) (.t 53)) ::
om 55 54 ::
og 56 55 false (.faddr 14 (.t 1)) ::
og 57 55 false (.loadn 2 (.t 56)) ::
ocg 58 55 false 62 [(.t 57), z0, (.c (Value.int .i64 2000))] ::
og 59 55 false (.not (.t 58)) ::
oo 60 (.pick (.t 55) (.c (Value.bool true)) (.t 59)) :: [])) (.cond (.t 60) (.seq (.reg (
 oo 2 (.mv (.c (Value.int .i64 2))) :: [])) .ret) .skip)) (.seq (.reg (
 oo 2 (.mv z0) :: [])) .ret)))
def r25 : List ResultVar := [.tmp 2]
theorem fun25 : Fun Tryz.prog 25 61 1 a25 r25 :=
  ⟨rfl, Tryz.f25, _, rfl, rfl, rfl, by decide, rfl, rfl, rfl⟩
noncomputable def a27 : ACode := (.seq (.reg (
 oo 2 (.box (.t 0) 70) ::
oo 4 (.alloc [k0, k0] 36) ::
oo 5 (.mv z0) :: [])) (.seq (.reg (
 oo 9 (.loadn 16 (.t 2)) ::
om 10 1 ::
oc 11 65 [(.t 9), (.t 10)] ::
om 8 11 ::
oo 12 (.extract (.t 8) 0) ::
oo 13 (.extract (.t 8) 1) ::
oo 6 (.alloc [k0, k0, k0, k0, k0, k0, k0, k0, k0, k0, k0, k0, k0, k0, k0, k0] 115) ::
oz (.store 16 (.t 6) (.t 12)) ::
om 7 13 :: [])) (.seq (.seq (.reg (
 om 14 7 ::
oo 15 (.int .neq (.t 14) z0) :: [])) (.cond (.t 15) (.seq (.reg (
 oo 16 (.build [k0, k0] []) ::
om 17 7 ::
oz (.store 2 (.t 4) (.t 16)) ::
om 5 17 :: [])) .ret) .skip)) (.seq (.dreg (
 oo 18 (.loadn 16 (.t 6)) ::
om 19 1 ::
oc 20 66 [(.t 18), (.t 19), (.c (Value.int .i64 (-1)))] ::
oo 21 (.field1 7 (.t 20)) ::
oo 22 (.loadn 16 (.t 6)) ::
om 23 1 ::
oc 24 66 [(.t 22), (.t 23), z1] ::
oo 25 (.field1 7 (.t 24)) ::
oo 26 (.build [k0, k0] [(0, 1, (.t 21)), (1, 1, (.t 25))]) ::
oz (.store 2 (.t 4) (.t 26)) ::
oo 5 (.mv z0) :: []) []) .ret))))
def r27 : List ResultVar := [.cell 4 36, .tmp 5]
theorem fun27 : Fun Tryz.prog 27 27 2 a27 r27 :=
  ⟨rfl, Tryz.f27, _, rfl, rfl, rfl, by decide, rfl, rfl, rfl⟩
noncomputable def a28 : ACode := (.seq (.reg (
 oo 3 (.box (.t 0) 70) ::
oo 4 (.box (.t 1) 59) ::
oo 5 (.box (.t 2) 77) ::
oo 6 (.mv z0) ::
oo 7 (.mv z0) :: [])) (.seq (.seq (.reg (
 oo 14 (.loadn 16 (.t 3)) ::
oc 15 67 [(.t 14)] ::
om 8 15 :: [])) (.seq (.reg (
 om 16 8 ::
oo 17 (.int .neq (.t 16) z0) :: [])) (.cond (.t 17) (.seq (.reg (
 om 18 8 ::
oo 6 (.mv z0) ::
om 7 18 :: [])) .ret) .skip))) (.seq (.seq (.reg (
 oo 19 (.loadn 2 (.t 4)) ::
oc 20 56 [(.t 19)] ::
om 9 20 :: [])) (.seq (.reg (
 om 21 9 ::
oo 22 (.int .neq (.t 21) z0) :: [])) (.cond (.t 22) (.seq (.reg (
 om 23 9 ::
oo 6 (.mv z0) ::
om 7 23 :: [])) .ret) .skip))) (.seq (.seq (.dreg (
 oo 24 (.faddr 0 (.t 5)) ::
oo 25 (.load1 (.t 24)) ::
oo 26 (.faddr 4 (.t 3)) ::
oo 27 (.faddr 0 (.t 26)) ::
oo 28 (.load1 (.t 27)) ::
oo 29 (.faddr 4 (.t 3)) ::
oo 30 (.faddr 1 (.t 29)) ::
oo 31 (.load1 (.t 30)) ::
oc 32 70 [(.t 25), (.t 28), (.t 31)] ::
oo 33 (.faddr 1 (.t 5)) ::
oo 34 (.load1 (.t 33)) ::
oo 35 (.faddr 6 (.t 3)) ::
oo 36 (.faddr 0 (.t 35)) ::
oo 37 (.load1 (.t 36)) ::
oo 38 (.faddr 6 (.t 3)) ::
oo 39 (.faddr 1 (.t 38)) ::
oo 40 (.load1 (.t 39)) ::
oc 41 70 [(.t 34), (.t 37), (.t 40)] ::
oo 42 (.faddr 2 (.t 5)) ::
oo 43 (.load1 (.t 42)) ::
oo 44 (.faddr 8 (.t 3)) ::
oo 45 (.faddr 0 (.t 44)) ::
oo 46 (.load1 (.t 45)) ::
oo 47 (.faddr 8 (.t 3)) ::
oo 48 (.faddr 1 (.t 47)) ::
oo 49 (.load1 (.t 48)) ::
oc 50 70 [(.t 43), (.t 46), (.t 49)] ::
oo 51 (.faddr 3 (.t 5)) ::
oo 52 (.load1 (.t 51)) ::
oo 53 (.faddr 10 (.t 3)) ::
oo 54 (.faddr 0 (.t 53)) ::
oo 55 (.load1 (.t 54)) ::
oo 56 (.faddr 10 (.t 3)) ::
oo 57 (.faddr 1 (.t 56)) ::
oo 58 (.load1 (.t 57)) ::
oc 59 70 [(.t 52), (.t 55), (.t 58)] ::
oo 60 (.faddr 4 (.t 5)) ::
oo 61 (.load1 (.t 60)) ::
oo 62 (.faddr 12 (.t 3)) ::
oo 63 (.faddr 0 (.t 62)) ::
oo 64 (.load1 (.t 63)) ::
oo 65 (.faddr 12 (.t 3)) ::
oo 66 (.faddr 1 (.t 65)) ::
oo 67 (.load1 (.t 66)) ::
oc 68 70 [(.t 61), (.t 64), (.t 67)] ::
oo 69 (.faddr 5 (.t 5)) ::
oo 70 (.load1 (.t 69)) ::
oo 71 (.faddr 14 (.t 3)) ::
oo 72 (.faddr 0 (.t 71)) ::
oo 73 (.load1 (.t 72)) ::
oo 74 (.faddr 14 (.t 3)) ::
oo 75 (.faddr 1 (.t 74)) ::
oo 76 (.load1 (.t 75)) ::
oc 77 70 [(.t 70), (.t 73), (.t 76)] ::
oo 78 (.bslice [k0, k0, k0, k0, k0, k0, k0, k0, k0, k0, k0, k0, k0, k0, k0, k0, k0, k0, k0, k0, k0, k0, k0, k0] [(0, 4, (.t 32)), (4, 4, (.t 41)), (8, 4, (.t 50)), (12, 4, (.t 59)), (16, 4, (.t 68)), (20, 4, (.t 77))] 6 126) ::
oc 79 69 [(.t 78)] ::
oc 80 68 [(.t 79)] ::
oo 81 (.not (.t 80)) :: []) []) (.cond (.t 81) (.seq (.reg (
 oo 6 (.mv z0) ::
oo 7 (.mv (.c (Value.int .i64 3))) :: [])) .ret) .skip)) (.seq (.dreg (
 oo 82 (.loadn 16 (.t 3)) ::
oo 83 (.build [k0, k0, k0, k0, k0, k0, k0, k0, k0, k0, k0, k0, k0, k0, k0, k0] [(0, 16, (.t 82))]) ::
oo 84 (.loadn 2 (.t 4)) ::
oo 85 (.build [Value.slice none 0 0, Value.slice none 0 0] [(0, 2, (.t 84))]) ::
oo 10 (.alloc [k0, k0, k0, k0, k0, k0, k0, k0, k0, k0, k0, k0, k0, k0, k0, k0] 115) ::
oo 11 (.alloc [Value.slice none 0 0, Value.slice none 0 0] 106) ::
oz (.store 16 (.t 10) (.t 83)) ::
oz (.store 2 (.t 11) (.t 85)) :: []) [((.t 4), (.t 10))]) (.seq (.dreg (
 oo 86 (.loadn 16 (.t 10)) ::
oo 87 (.faddr 1 (.t 5)) ::
oo 88 (.load1 (.t 87)) ::
oc 89 71 [(.t 86), (.t 88)] ::
oo 90 (.loadn 16 (.t 10)) ::
oo 91 (.faddr 2 (.t 5)) ::
oo 92 (.load1 (.t 91)) ::
oc 93 72 [(.t 90), (.t 92)] ::
om 12 89 ::
om 13 93 :: []) []) (.seq (.seq (.reg (
 oo 94 (.loadn 2 (.t 11)) ::
om 95 12 ::
om 96 13 ::
oo 97 (.mnmx false (.t 95) (.t 96)) ::
om 98 12 ::
om 99 13 ::
oo 100 (.mnmx true (.t 98) (.t 99)) ::
oo 101 (.build [k0, k0] [(0, 1, (.t 97)), (1, 1, (.t 100))]) ::
oc 102 57 [(.t 94), (.t 101)] ::
oo 103 (.not (.t 102)) :: [])) (.cond (.t 103) (.seq (.reg (
 oo 6 (.mv z0) ::
oo 7 (.mv (.c (Value.int .i64 19))) :: [])) .ret) .skip)) (.seq (.reg (
 oo 104 (.loadn 16 (.t 10)) ::
oo 105 (.loadn 2 (.t 11)) ::
oo 106 (.loadn 6 (.t 5)) ::
oc 107 73 [(.t 104), (.t 105), (.t 106)] ::
om 6 107 ::
oo 7 (.mv z0) :: [])) .ret))))))))
def r28 : List ResultVar := [.tmp 6, .tmp 7]
theorem fun28 : Fun Tryz.prog 28 108 3 a28 r28 :=
  ⟨rfl, Tryz.f28, _, rfl, rfl, rfl, by decide, rfl, rfl, rfl⟩
noncomputable def a30 : ACode := (.seq (.reg (
 oo 2 (.box (.t 0) 34) ::
oo 4 (.mv z0) ::
oo 5 (.mv z0) :: [])) (.seq (.seq (.reg (
 oo 11 (.loadn 2 (.t 2)) ::
oc 12 38 [(.t 11)] ::
om 6 12 :: [])) (.seq (.reg (
 om 13 6 ::
oo 14 (.int .neq (.t 13) z0) :: [])) (.cond (.t 14) (.seq (.reg (
 om 15 6 ::
oo 4 (.mv z0) ::
om 5 15 :: [])) .ret) .skip))) (.seq (.seq (.reg (
 om 16 1 ::
oo 17 (.len (.t 16)) ::
oo 18 (.faddr 0 (.t 2)) ::
oo 19 (.load1 (.t 18)) ::
oo 20 (.len (.t 19)) ::
oo 21 (.int .neq (.t 17) (.t 20)) :: [])) (.cond (.t 21) (.seq (.reg (
 oo 4 (.mv z0) ::
oo 5 (.mv (.c (Value.int .i64 15))) :: [])) .ret) .skip)) (.seq (.seq (.reg (
 oo 22 (.faddr 0 (.t 2)) ::
oo 23 (.load1 (.t 22)) ::
oo 24 (.len (.t 23)) ::
oo 25 (.mv z0) :: [])) (.block 0 (.loop (.seq (.reg (
 oo 26 (.int .lss (.t 25) (.t 24)) :: [])) (.seq (.cond (.t 26) .skip (.exit 0)) (.seq (.block 1 (.seq (.reg (
 om 27 25 ::
oo 28 (.ixsl 2 (.t 23) (.t 25)) ::
oo 29 (.loadn 2 (.t 28)) ::
oo 8 (.alloc [k0, k0] 36) ::
om 7 27 ::
oz (.store 2 (.t 8) (.t 29)) :: [])) (.seq (.dreg (
 oo 30 (.faddr 0 (.t 8)) ::
oo 31 (.load1 (.t 30)) ::
oo 32 (.faddr 1 (.t 8)) ::
oo 33 (.load1 (.t 32)) ::
om 34 1 ::
om 35 7 ::
oo 36 (.ixsl 1 (.t 34) (.t 35)) ::
oo 37 (.load1 (.t 36)) ::
oo 38 (.bslice [k0] [(0, 1, (.t 37))] 1 2) ::
oc 39 59 [(.t 31), (.t 33), (.t 38)] ::
oo 40 (.not (.t 39)) :: []) []) (.cond (.t 40) (.seq (.reg (
 oo 4 (.mv z0) ::
oo 5 (.mv (.c (Value.int .i64 17))) :: [])) .ret) .skip)))) (.reg (
 oo 41 (.int .add (.t 25) z1) ::
om 25 41 :: [])))))))) (.seq (.reg (
 om 43 1 ::
oc 44 60 [(.t 43)] ::
om 42 44 ::
oo 45 (.extract (.t 42) 0) ::
oo 46 (.extract (.t 42) 1) ::
om 9 45 ::
om 10 46 :: [])) (.seq (.reg (
 om 47 10 ::
oo 48 (.faddr 1 (.t 2)) ::
oo 49 (.load1 (.t 48)) ::
om 50 9 ::
oo 51 (.int .mul (.t 49) (.t 50)) ::
oo 52 (.int .add (.t 47) (.t 51)) ::
om 4 52 ::
oo 5 (.mv z0) :: [])) .ret))))))
def r30 : List ResultVar := [.tmp 4, .tmp 5]
theorem fun30 : Fun Tryz.prog 30 53 2 a30 r30 :=
  ⟨rfl, Tryz.f30, _, rfl, rfl, rfl, by decide, rfl, rfl, rfl⟩
noncomputable def a31 : ACode := (.seq (.reg (
 oo 1 (.box (.t 0) 70) ::
oo 2 (.alloc [k0, k0] 36) ::
oo 3 (.alloc [k0, k0] 36) ::
oo 4 (.mv z0) :: [])) (.seq (.seq (.reg (
 oo 7 (.loadn 16 (.t 1)) ::
oc 8 67 [(.t 7)] ::
om 5 8 :: [])) (.seq (.reg (
 om 9 5 ::
oo 10 (.int .neq (.t 9) z0) :: [])) (.cond (.t 10) (.seq (.reg (
 oo 11 (.build [k0, k0] []) ::
oo 12 (.build [k0, k0] []) ::
om 13 5 ::
oz (.store 2 (.t 2) (.t 11)) ::
oz (.store 2 (.t 3) (.t 12)) ::
om 4 13 :: [])) .ret) .skip))) (.seq (.reg (
 oo 14 (.loadn 16 (.t 1)) ::
oo 15 (.build [k0, k0, k0, k0, k0, k0, k0, k0, k0, k0, k0, k0, k0, k0, k0, k0] [(0, 16, (.t 14))]) ::
oc 16 75 [(.t 15)] ::
oo 6 (.alloc [k0, k0, k0, k0] 130) ::
oz (.store 4 (.t 6) (.t 16)) :: [])) (.seq (.dreg (
 oo 17 (.ixarr 2 2 (.t 6) z0) ::
oo 18 (.loadn 2 (.t 17)) ::
oo 19 (.ixarr 2 2 (.t 6) z1) ::
oo 20 (.loadn 2 (.t 19)) ::
oz (.store 2 (.t 2) (.t 18)) ::
oz (.store 2 (.t 3) (.t 20)) ::
oo 4 (.mv z0) :: []) [((.t 19), (.t 2))]) .ret))))
def r31 : List ResultVar := [.cell 2 36, .cell 3 36, .tmp 4]
theorem fun31 : Fun Tryz.prog 31 21 1 a31 r31 :=
  ⟨rfl, Tryz.f31, _, rfl, rfl, rfl, by decide, rfl, rfl, rfl⟩
noncomputable def a32 : ACode := (.seq (.reg (
 oo 3 (.box (.t 0) 24) ::
oo 6 (.mv (.c (Value.slice none 0 0))) ::
oo 7 (.mv z0) :: [])) (.seq (.reg (
 oo 17 (.loadn 3 (.t 3)) ::
om 18 1 ::
oc 19 45 [(.t 17), (.t 18)] ::
om 16 19 ::
oo 20 (.extract (.t 16) 0) ::
oo 21 (.extract (.t 16) 1) ::
om 8 20 ::
om 9 21 :: [])) (.seq (.seq (.reg (
 om 22 9 ::
oo 23 (.int .neq (.t 22) z0) :: [])) (.cond (.t 23) (.seq (.reg (
 om 24 9 ::
oo 6 (.mv (.c (Value.slice none 0 0))) ::
om 7 24 :: [])) .ret) .skip)) (.seq (.reg (
 oo 10 (.mv (.c (Value.int .i64 (-1)))) :: [])) (.seq (.seq (.reg (
 om 25 2 :: [])) (.cond (.t 25) (.reg (
 oo 10 (.mv z1) :: [])) .skip)) (.seq (.reg (
 om 27 8 ::
om 28 10 ::
oc 29 50 [(.t 27), (.t 28)] ::
om 26 29 ::
oo 30 (.extract (.t 26) 0) ::
oo 31 (.extract (.t 26) 1) ::
oo 12 (.alloc [k0, k0] 27) ::
om 11 30 ::
oz (.store 2 (.t 12) (.t 31)) :: [])) (.seq (.reg (
 om 32 11 ::
oo 33 (.len (.t 32)) ::
oo 34 (.mkslice [Value.slice none 0 0] 24 38 (.t 33) (.t 33)) ::
om 13 34 :: [])) (.seq (.seq (.reg (
 om 35 11 ::
oo 36 (.len (.t 35)) ::
oo 37 (.mv z0) :: [])) (.block 0 (.loop (.seq (.reg (
 oo 38 (.int .lss (.t 37) (.t 36)) :: [])) (.seq (.cond (.t 38) .skip (.exit 0)) (.seq (.block 1 (.seq (.reg (
 om 39 37 ::
oo 40 (.ixsl 1 (.t 35) (.t 37)) ::
oo 41 (.load1 (.t 40)) ::
om 14 39 ::
om 15 41 :: [])) (.seq (.reg (
 om 42 13 ::
om 43 14 ::
om 44 15 ::
oo 45 (.len (.t 44)) ::
oo 46 (.mkslice [k0] 8 2 (.t 45) (.t 45)) ::
oo 47 (.ixsl 1 (.t 42) (.t 43)) ::
oz (.store 1 (.t 47) (.t 46)) :: [])) (.reg (
 om 48 13 ::
om 49 14 ::
oo 50 (.ixsl 1 (.t 48) (.t 49)) ::
oo 51 (.load1 (.t 50)) ::
om 52 15 ::
oo 53 (.copy 1 (.t 51) (.t 52)) :: []))))) (.reg (
 oo 54 (.int .add (.t 37) z1) ::
om 37 54 :: [])))))))) (.seq (.reg (
 om 55 13 ::
om 6 55 ::
oo 7 (.mv z0) :: [])) .ret)))))))))
def r32 : List ResultVar := [.tmp 6, .tmp 7]
theorem fun32 : Fun Tryz.prog 32 56 3 a32 r32 :=
  ⟨rfl, Tryz.f32, _, rfl, rfl, rfl, by decide, rfl, rfl, rfl⟩
noncomputable def a33 : ACode := (.seq (.reg (
 oo 2 (.box (.t 0) 24) ::
oo 4 (.mv z0) :: [])) (.seq (.seq (.reg (
 oo 8 (.loadn 3 (.t 2)) ::
oc 9 7 [(.t 8)] ::
oo 10 (.int .neq (.t 9) z0) :: [])) (.cond (.t 10) (.seq (.reg (
 oo 11 (.loadn 3 (.t 2)) ::
oc 12 7 [(.t 11)] ::
om 4 12 :: [])) .ret) .skip)) (.seq (.seq (.reg (
 om 13 1 ::
oo 14 (.len (.t 13)) ::
oo 15 (.faddr 2 (.t 2)) ::
oo 16 (.load1 (.t 15)) ::
oo 17 (.len (.t 16)) ::
oo 18 (.int .neq (.t 14) (.t 17)) :: [])) (.cond (.t 18) (.seq (.reg (
 oo 4 (.mv (.c (Value.int .i64 15))) :: [])) .ret) .skip)) (.seq (.seq (.reg (
 oo 5 (.mv z0) :: [])) (.block 0 (.loop (.seq (.seq (.reg (
 om 19 5 ::
om 20 1 ::
oo 21 (.len (.t 20)) ::
oo 22 (.int .lss (.t 19) (.t 21)) :: [])) (.cond (.t 22) .skip (.exit 0))) (.seq (.block 1 (.seq (.dreg (
 om 25 1 ::
om 26 5 ::
oo 27 (.ixsl 1 (.t 25) (.t 26)) ::
oo 28 (.load1 (.t 27)) ::
oo 29 (.len (.t 28)) ::
oo 30 (.faddr 2 (.t 2)) ::
oo 31 (.load1 (.t 30)) ::
om 32 5 ::
oo 33 (.ixsl 1 (.t 31) (.t 32)) ::
oo 34 (.load1 (.t 33)) ::
oo 35 (.len (.t 34)) ::
oo 36 (.int .neq (.t 29) (.t 35)) :: []) []) (.cond (.t 36) (.seq (.reg (
 oo 4 (.mv (.c (Value.int .i64 15))) :: [])) .ret) .skip))) (.reg (
 om 23 5 ::
oo 24 (.int .add (.t 23) z1) ::
om 5 24 :: []))))))) (.seq (.seq (.reg (
 oo 6 (.mv z0) :: [])) (.block 2 (.loop (.seq (.seq (.reg (
 om 37 6 ::
om 38 1 ::
oo 39 (.len (.t 38)) ::
oo 40 (.int .lss (.t 37) (.t 39)) :: [])) (.cond (.t 40) .skip (.exit 2))) (.seq (.block 3 (.seq (.reg (
 oo 7 (.mv z0) :: [])) (.block 4 (.loop (.seq (.seq (.reg (
 om 43 7 ::
om 44 1 ::
om 45 6 ::
oo 46 (.ixsl 1 (.t 44) (.t 45)) ::
oo 47 (.load1 (.t 46)) ::
oo 48 (.len (.t 47)) ::
oo 49 (.int .lss (.t 43) (.t 48)) :: [])) (.cond (.t 49) .skip (.exit 4))) (.seq (.block 5 (.seq (.dreg (
 om 52 1 ::
om 53 6 ::
oo 54 (.ixsl 1 (.t 52) (.t 53)) ::
oo 55 (.load1 (.t 54)) ::
om 56 7 ::
oo 57 (.ixsl 1 (.t 55) (.t 56)) ::
oo 58 (.load1 (.t 57)) ::
oo 59 (.faddr 2 (.t 2)) ::
oo 60 (.load1 (.t 59)) ::
om 61 6 ::
oo 62 (.ixsl 1 (.t 60) (.t 61)) ::
oo 63 (.load1 (.t 62)) ::
om 64 7 ::
oo 65 (.ixsl 2 (.t 63) (.t 64)) ::
oo 66 (.faddr 0 (.t 65)) ::
oo 67 (.load1 (.t 66)) ::
oo 68 (.int .lss (.t 58) (.t 67)) ::
om 69 68 ::
og 70 69 false (.mv (.t 1)) ::
og 71 69 false (.mv (.t 6)) ::
og 72 69 false (.ixsl 1 (.t 70) (.t 71)) ::
og 73 69 false (.load1 (.t 72)) ::
og 74 69 false (.mv (.t 7)) ::
og 75 69 false (.ixsl 1 (.t 73) (.t 74)) ::
og 76 69 false (.load1 (.t 75)) ::
og 77 69 false (.faddr 2 (.t 2)) ::
og 78 69 false (.load1 (.t 77)) ::
og 79 69 false (.mv (.t 6)) ::
og 80 69 false (.ixsl 1 (.t 78) (.t 79)) ::
og 81 69 false (.load1 (.t 80)) ::
og 82 69 false (.mv (.t 7)) ::
og 83 69 false (.ixsl 2 (.t 81) (.t 82)) ::
og 84 69 false (.faddr 1 (.t 83)) ::
og 85 69 false (.load1 (.t 84)) ::
og 86 69 false (.int .gtr (.t 76) (.t 85)) ::
oo 87 (.pick (.t 69) (.c (Value.bool true)) (.t 86)) :: []) []) (.cond (.t 87) (.seq (.reg (
 oo 4 (.mv (.c (Value.int .i64 3))) :: [])) .ret) .skip))) (.reg (
 om 50 7 ::
oo 51 (.int .add (.t 50) z1) ::
om 7 51 :: [])))))))) (.reg (
 om 41 6 ::
oo 42 (.int .add (.t 41) z1) ::
om 6 42 :: []))))))) (.seq (.reg (
 oo 4 (.mv z0) :: [])) .ret))))))
def r33 : List ResultVar := [.tmp 4]
theorem fun33 : Fun Tryz.prog 33 88 2 a33 r33 :=
  ⟨rfl, Tryz.f33, _, rfl, rfl, rfl, by decide, rfl, rfl, rfl⟩
noncomputable def a34 : ACode := (.seq (.reg (
 oo 4 (.alloc [k0, k0] 27) :: [])) (.seq (.reg (
 om 7 0 ::
om 8 1 ::
om 5 7 ::
om 6 8 :: [])) (.seq (.block 0 (.loop (.seq (.seq (.reg (
 om 9 6 ::
oo 10 (.int .neq (.t 9) z0) :: [])) (.cond (.t 10) .skip (.exit 0))) (.block 1 (.dreg (
 om 11 6 ::
om 12 5 ::
om 13 6 ::
oo 14 (.idiv false (.t 12) (.t 13)) ::
om 5 11 ::
om 6 14 :: []) []))))) (.seq (.dreg (
 om 15 0 ::
om 16 5 ::
oo 17 (.idiv true (.t 15) (.t 16)) ::
om 18 1 ::
om 19 5 ::
oo 20 (.idiv true (.t 18) (.t 19)) ::
oo 21 (.build [k0, k0] [(0, 1, (.t 17)), (1, 1, (.t 20))]) ::
oz (.store 2 (.t 4) (.t 21)) :: []) []) .ret))))
def r34 : List ResultVar := [.cell 4 27]
theorem fun34 : Fun Tryz.prog 34 22 2 a34 r34 :=
  ⟨rfl, Tryz.f34, _, rfl, rfl, rfl, by decide, rfl, rfl, rfl⟩
noncomputable def a35 : ACode := (.seq (.reg (
 oo 0 (.mv (.c (Value.bool false))) :: [])) (.seq (.reg (
 oc 18 76 [] ::
oo 1 (.alloc [Value.slice none 0 0, k0] 34) ::
oz (.store 2 (.t 1) (.t 18)) :: [])) (.seq (.reg (
 oo 20 (.bslice [k0, k0, k0, k0, k0] [(0, 1, z0), (1, 1, (.c (Value.int .i64 3))), (2, 1, (.c (Value.int .i64 4))), (3, 1, (.c (Value.int .i64 7))), (4, 1, (.c (Value.int .i64 10)))] 5 2) ::
oc 21 23 [(.t 20)] ::
om 19 21 ::
oo 22 (.extract (.t 19) 0) ::
oo 23 (.extract (.t 19) 1) ::
oo 24 (.extract (.t 19) 2) ::
om 2 22 ::
om 3 23 ::
om 4 24 :: [])) (.seq (.reg (
 oo 26 (.loadn 2 (.t 1)) ::
oo 27 (.bslice [k0, k0, k0, k0, k0] [(0, 1, z0), (1, 1, (.c (Value.int .i64 2))), (2, 1, (.c (Value.int .i64 4))), (3, 1, (.c (Value.int .i64 6))), (4, 1, (.c (Value.int .i64 10)))] 5 2) ::
oc 28 30 [(.t 26), (.t 27)] ::
om 25 28 ::
oo 29 (.extract (.t 25) 0) ::
oo 30 (.extract (.t 25) 1) ::
om 5 29 ::
om 6 30 :: [])) (.seq (.reg (
 oo 32 (.loadn 2 (.t 1)) ::
oc 33 10 [(.t 32)] ::
om 31 33 ::
oo 34 (.extract (.t 31) 0) ::
oo 35 (.extract (.t 31) 1) ::
oo 36 (.extract (.t 31) 2) ::
om 7 34 ::
om 8 35 ::
om 9 36 :: [])) (.seq (.reg (
 oo 38 (.loadn 2 (.t 1)) ::
oc 39 77 [(.t 38), z0] ::
om 37 39 ::
oo 40 (.extract (.t 37) 0) ::
oo 41 (.extract (.t 37) 1) ::
om 10 40 ::
om 11 41 :: [])) (.seq (.reg (
 oo 43 (.loadn 2 (.t 1)) ::
oc 44 78 [(.t 43)] ::
om 42 44 ::
oo 45 (.extract (.t 42) 0) ::
oo 46 (.extract (.t 42) 1) ::
om 12 45 ::
om 13 46 :: [])) (.seq (.reg (
 oo 48 (.loadn 2 (.t 1)) ::
om 49 12 ::
oc 50 79 [(.t 48), (.t 49)] ::
om 47 50 ::
oo 51 (.extract (.t 47) 0) ::
oo 52 (.extract (.t 47) 1) ::
om 14 51 ::
om 15 52 :: [])) (.seq (.reg (
 oo 54 (.loadn 2 (.t 1)) ::
oo 55 (.bslice [k0, k0, k0, k0, k0] [(0, 1, z0), (1, 1, (.c (Value.int .i64 2))), (2, 1, (.c (Value.int .i64 4))), (3, 1, (.c (Value.int .i64 8))), (4, 1, (.c (Value.int .i64 10)))] 5 2) ::
oc 56 30 [(.t 54), (.t 55)] ::
om 53 56 ::
oo 57 (.extract (.t 53) 0) ::
oo 58 (.extract (.t 53) 1) ::
om 16 57 ::
om 17 58 :: [])) (.seq (.reg (
 om 59 4 ::
oo 60 (.int .eql (.t 59) z0) ::
om 61 60 ::
og 62 61 true (.mv (.t 6)) ::
og 63 61 true (.int .eql (.t 62) z0) ::
oo 64 (.pick (.t 61) (.t 63) (.c (Value.bool false))) ::
om 65 64 ::
og 66 65 true (.mv (.t 9)) ::
og 67 65 true (.int .eql (.t 66) z0) ::
oo 68 (.pick (.t 65) (.t 67) (.c (Value.bool false))) ::
om 69 68 ::
og 70 69 true (.mv (.t 11)) ::
og 71 69 true (.int .eql (.t 70) z0) ::
oo 72 (.pick (.t 69) (.t 71) (.c (Value.bool false))) ::
om 73 72 ::
og 74 73 true (.mv (.t 13)) ::
og 75 73 true (.int .eql (.t 74) z0) ::
oo 76 (.pick (.t 73) (.t 75) (.c (Value.bool false))) ::
om 77 76 ::
og 78 77 true (.mv (.t 15)) ::
og 79 77 true (.int .eql (.t 78) z0) ::
oo 80 (.pick (.t 77) (.t 79) (.c (Value.bool false))) ::
om 81 80 ::
og 82 81 true (.mv (.t 17)) ::
og 83 81 true (.int .eql (.t 82) (.c (Value.int .i64 17))) ::
oo 84 (.pick (.t 81) (.t 83) (.c (Value.bool false))) ::
om 85 84 ::
og 86 85 true (.mv (.t 2)) ::
og 87 85 true (.int .eql (.t 86) z1) ::
oo 88 (.pick (.t 85) (.t 87) (.c (Value.bool false))) ::
om 89 88 ::
og 90 89 true (.mv (.t 3)) ::
og 91 89 true (.int .eql (.t 90) (.c (Value.int .i64 4))) ::
oo 92 (.pick (.t 89) (.t 91) (.c (Value.bool false))) ::
om 93 92 ::
og 94 93 true (.mv (.t 5)) ::
og 95 93 true (.int .eql (.t 94) (.c (Value.int .i64 2))) ::
oo 96 (.pick (.t 93) (.t 95) (.c (Value.bool false))) ::
om 97 96 ::
og 98 97 true (.mv (.t 7)) ::
og 99 97 true (.bslice [k0, k0, k0, k0, k0] [(0, 1, z0), (1, 1, (.c (Value.int .i64 2))), (2, 1, (.c (Value.int .i64 4))), (3, 1, (.c (Value.int .i64 7))), (4, 1, (.c (Value.int .i64 10)))] 5 2) ::
ocg 100 97 true 80 [(.t 98), (.t 99)] ::
oo 101 (.pick (.t 97) (.t 100) (.c (Value.bool false))) ::
om 102 101 ::
og 103 102 true (.mv (.t 8)) ::
og 104 102 true (.int .eql (.t 103) z1) ::
oo 105 (.pick (.t 102) (.t 104) (.c (Value.bool false))) ::
om 106 105 ::
og 107 106 true (.mv (.t 14)) ::
og 108 106 true (.int .eql (.t 107) z1) ::
oo 109 (.pick (.t 106) (.t 108) (.c (Value.bool false))) ::
om 110 109 ::
og 111 110 true (.mv (.t 10)) ::
og 112 110 true (.build [k0, k0] []) ::
og 113 110 true (.build [k0, k0] [(0, 1, (.c (Value.int .i64 2))), (1, 1, (.c (Value.int .i64 2)))]) ::
og 114 110 true (.build [k0, k0] [(0, 1, (.c (Value.int .i64 4))), (1, 1, (.c (Value.int .i64 4)))]) ::
og 115 110 true (.build [k0, k0] [(0, 1, (.c (Value.int .i64 6))), (1, 1, (.c (Value.int .i64 7)))]) ::
og 116 110 true (.build [k0, k0] [(0, 1, (.c (Value.int .i64 10))), (1, 1, (.c (Value.int .i64 10)))]) ::
og 117 110 true (.bslice [k0, k0, k0, k0, k0, k0, k0, k0, k0, k0] [(0, 2, (.t 112)), (2, 2, (.t 113)), (4, 2, (.t 114)), (6, 2, (.t 115)), (8, 2, (.t 116))] 5 36) ::
ocg 118 110 true 81 [(.t 111), (.t 117)] ::
oo 119 (.pick (.t 110) (.t 118) (.c (Value.bool false))) ::
om 0 119 :: [])) .ret))))))))))
def r35 : List ResultVar := [.tmp 0]
theorem fun35 : Fun Tryz.prog 35 120 0 a35 r35 :=
  ⟨rfl, Tryz.f35, _, rfl, rfl, rfl, by decide, rfl, rfl, rfl⟩
noncomputable def a36 : ACode := (.seq (.reg (
 oo 0 (.mv (.c (Value.bool false))) :: [])) (.seq (.reg (
 oc 15 82 [] ::
oo 1 (.alloc [k0, k0, Value.slice none 0 0] 24) ::
oz (.store 3 (.t 1) (.t 15)) :: [])) (.seq (.reg (
 oo 16 (.bslice [k0, k0] [(0, 1, (.c (Value.int .i64 2))), (1, 1, (.c (Value.int .i64 6)))] 2 2) ::
oo 17 (.bslice [k0, k0] [(0, 1, z0), (1, 1, (.c (Value.int .i64 3)))] 2 2) ::
oo 18 (.bslice [Value.slice none 0 0, Value.slice none 0 0] [(0, 1, (.t 16)), (1, 1, (.t 17))] 2 38) ::
om 2 18 :: [])) (.seq (.reg (
 oo 20 (.loadn 3 (.t 1)) ::
om 21 2 ::
oc 22 13 [(.t 20), (.t 21)] ::
om 19 22 ::
oo 23 (.extract (.t 19) 0) ::
oo 24 (.extract (.t 19) 1) ::
oo 3 (.alloc [k0, k0] 27) ::
oz (.store 2 (.t 3) (.t 23)) ::
om 4 24 :: [])) (.seq (.reg (
 oo 26 (.loadn 3 (.t 1)) ::
om 27 2 ::
oc 28 14 [(.t 26), (.t 27), (.c (Value.int .i64 2))] ::
om 25 28 ::
oo 29 (.extract (.t 25) 0) ::
oo 30 (.extract (.t 25) 1) ::
oo 5 (.alloc [k0, k0] 27) ::
oz (.store 2 (.t 5) (.t 29)) ::
om 6 30 :: [])) (.seq (.reg (
 oo 32 (.loadn 3 (.t 1)) ::
oc 33 16 [(.t 32), z0] ::
om 31 33 ::
oo 34 (.extract (.t 31) 0) ::
oo 35 (.extract (.t 31) 1) ::
oo 7 (.alloc [k0, k0, k0, k0] 48) ::
oz (.store 4 (.t 7) (.t 34)) ::
om 8 35 :: [])) (.seq (.reg (
 oo 37 (.loadn 3 (.t 1)) ::
oc 38 16 [(.t 37), z1] ::
om 36 38 ::
oo 39 (.extract (.t 36) 0) ::
oo 40 (.extract (.t 36) 1) ::
oo 9 (.alloc [k0, k0, k0, k0] 48) ::
oz (.store 4 (.t 9) (.t 39)) ::
om 10 40 :: [])) (.seq (.reg (
 oo 42 (.loadn 3 (.t 1)) ::
oc 43 32 [(.t 42), z0, (.c (Value.bool true))] ::
om 41 43 ::
oo 44 (.extract (.t 41) 0) ::
oo 45 (.extract (.t 41) 1) ::
om 11 44 ::
om 12 45 :: [])) (.seq (.reg (
 oo 46 (.loadn 3 (.t 1)) ::
oo 47 (.build [k0, k0] [(0, 1, (.c (Value.int .i64 10))), (1, 1, (.c (Value.int .i64 3)))]) ::
oc 48 18 [(.t 46), z0, (.t 47), (.c (Value.bool true))] ::
om 13 48 :: [])) (.seq (.reg (
 oo 49 (.loadn 3 (.t 1)) ::
oo 50 (.build [k0, k0] [(0, 1, (.c (Value.int .i64 3))), (1, 1, z1)]) ::
oc 51 18 [(.t 49), z0, (.t 50), (.c (Value.bool true))] ::
om 14 51 :: [])) (.seq (.reg (
 om 52 4 ::
oo 53 (.int .eql (.t 52) z0) ::
om 54 53 ::
og 55 54 true (.mv (.t 6)) ::
og 56 54 true (.int .eql (.t 55) z0) ::
oo 57 (.pick (.t 54) (.t 56) (.c (Value.bool false))) ::
om 58 57 ::
og 59 58 true (.mv (.t 8)) ::
og 60 58 true (.int .eql (.t 59) z0) ::
oo 61 (.pick (.t 58) (.t 60) (.c (Value.bool false))) ::
om 62 61 ::
og 63 62 true (.mv (.t 10)) ::
og 64 62 true (.int .eql (.t 63) z0) ::
oo 65 (.pick (.t 62) (.t 64) (.c (Value.bool false))) ::
om 66 65 ::
og 67 66 true (.mv (.t 12)) ::
og 68 66 true (.int .eql (.t 67) z0) ::
oo 69 (.pick (.t 66) (.t 68) (.c (Value.bool false))) ::
om 70 69 ::
og 71 70 true (.mv (.t 13)) ::
og 72 70 true (.int .eql (.t 71) z0) ::
oo 73 (.pick (.t 70) (.t 72) (.c (Value.bool false))) ::
om 74 73 ::
og 75 74 true (.mv (.t 14)) ::
og 76 74 true (.int .eql (.t 75) (.c (Value.int .i64 14))) ::
oo 77 (.pick (.t 74) (.t 76) (.c (Value.bool false))) ::
om 78 77 ::
og 79 78 true (.loadn 2 (.t 3)) ::
og 80 78 true (.build [k0, k0] [(0, 1, (.c (Value.int .i64 330))), (1, 1, z1)]) ::
og 81 78 true (.pure (rawOp Tryz.f36 10 29)) ::
oo 82 (.pick (.t 78) (.t 81) (.c (Value.bool false))) ::
om 83 82 ::
og 84 83 true (.loadn 2 (.t 5)) ::
og 85 83 true (.build [k0, k0] [(0, 1, (.c (Value.int .i64 81))), (1, 1, (.c (Value.int .i64 11)))]) ::
og 86 83 true (.pure (rawOp Tryz.f36 10 34)) ::
oo 87 (.pick (.t 83) (.t 86) (.c (Value.bool false))) ::
om 88 87 ::
og 89 88 true (.loadn 4 (.t 7)) ::
og 90 88 true (.build [k0, k0] [(0, 1, (.c (Value.int .i64 30))), (1, 1, (.c (Value.int .i64 13)))]) ::
og 91 88 true (.build [k0, k0] [(0, 1, (.c (Value.int .i64 10))), (1, 1, (.c (Value.int .i64 3)))]) ::
og 92 88 true (.build [k0, k0, k0, k0] [(0, 2, (.t 90)), (2, 2, (.t 91))]) ::
og 93 88 true (.pure (rawOp Tryz.f36 10 41)) ::
oo 94 (.pick (.t 88) (.t 93) (.c (Value.bool false))) ::
om 95 94 ::
og 96 95 true (.loadn 4 (.t 9)) ::
og 97 95 true (.build [k0, k0] [(0, 1, (.c (Value.int .i64 27))), (1, 1, (.c (Value.int .i64 7)))]) ::
og 98 95 true (.build [k0, k0] [(0, 1, (.c (Value.int .i64 54))), (1, 1, (.c (Value.int .i64 11)))]) ::
og 99 95 true (.build [k0, k0, k0, k0] [(0, 2, (.t 97)), (2, 2, (.t 98))]) ::
og 100 95 true (.pure (rawOp Tryz.f36 10 48)) ::
oo 101 (.pick (.t 95) (.t 100) (.c (Value.bool false))) ::
om 102 101 ::
og 103 102 true (.mv (.t 11)) ::
og 104 102 true (.bslice [k0, k0] [(0, 1, (.c (Value.int .i64 2))), (1, 1, (.c (Value.int .i64 6)))] 2 2) ::
og 105 102 true (.bslice [k0, k0] [(0, 1, z1), (1, 1, (.c (Value.int .i64 3)))] 2 2) ::
og 106 102 true (.bslice [Value.slice none 0 0, Value.slice none 0 0] [(0, 1, (.t 104)), (1, 1, (.t 105))] 2 38) ::
ocg 107 102 true 83 [(.t 103), (.t 106)] ::
oo 108 (.pick (.t 102) (.t 107) (.c (Value.bool false))) ::
om 0 108 :: [])) .ret)))))))))))
def r36 : List ResultVar := [.tmp 0]
theorem fun36 : Fun Tryz.prog 36 109 0 a36 r36 :=
  ⟨rfl, Tryz.f36, _, rfl, rfl, rfl, by decide, rfl, rfl, rfl⟩
noncomputable def a38 : ACode := (.seq (.reg (
 oo 1 (.box (.t 0) 34) ::
oo 2 (.mv z0) :: [])) (.seq (.reg (
 oo 3 (.mv (.c (Value.func (.func 96) #[] #[]))) :: [])) (.seq (.block 0 (.seq (.reg (
 oo 5 (.faddr 0 (.t 1)) ::
oo 6 (.load1 (.t 5)) ::
oo 7 (.len (.t 6)) ::
oo 8 (.int .eql (.t 7) z0) ::
om 9 8 ::
og 10 9 false (.faddr 0 (.t 1)) ::
og 11 9 false (.load1 (.t 10)) ::
og 12 9 false (.len (.t 11)) ::
og 13 9 false (.int .gtr (.t 12) (.c (Value.int .i64 24))) ::
oo 14 (.pick (.t 9) (.c (Value.bool true)) (.t 13)) ::
om 4 14 :: [])) (.cond (.t 4) (.seq (.reg (
 oo 2 (.mv (.c (Value.int .i64 6))) :: [])) .ret) (.seq (.reg (
 oo 16 (.faddr 1 (.t 1)) ::
oo 17 (.load1 (.t 16)) ::
oo 18 (.bslice [k0] [(0, 1, (.t 17))] 1 2) ::
oc 19 59 [z0, (.c (Value.int .i64 1000000)), (.t 18)] ::
oo 20 (.not (.t 19)) ::
om 21 20 ::
og 22 21 false (.faddr 0 (.t 1)) ::
og 23 21 false (.load1 (.t 22)) ::
og 24 21 false (.mv (.t 3)) ::
ocg 25 21 false 97 [(.t 23), (.t 24)] ::
oo 26 (.pick (.t 21) (.c (Value.bool true)) (.t 25)) ::
om 15 26 :: [])) (.cond (.t 15) (.seq (.reg (
 oo 2 (.mv (.c (Value.int .i64 2))) :: [])) .ret) .skip))))) (.seq (.reg (
 oo 2 (.mv z0) :: [])) .ret))))
def r38 : List ResultVar := [.tmp 2]
theorem fun38 : Fun Tryz.prog 38 27 1 a38 r38 :=
  ⟨rfl, Tryz.f38, _, rfl, rfl, rfl, by decide, rfl, rfl, rfl⟩
noncomputable def a39 : ACode := (.seq (.reg (
 oo 3 (.box (.t 0) 34) ::
oo 6 (.mv (.c (Value.pointer none))) :: [])) (.seq (.dreg (
 oo 7 (.loadn 2 (.t 3)) ::
om 8 1 ::
om 9 2 ::
oo 10 (.faddr 0 (.t 3)) ::
oo 11 (.load1 (.t 10)) ::
oo 12 (.len (.t 11)) ::
oo 13 (.mkslice [k0, k0, k0, k0, k0, k0, k0, k0, k0, k0, k0, k0, k0, k0, k0, k0, k0, k0, k0, k0, k0, k0, k0, k0, k0, k0, k0, k0, k0, k0, k0, k0, k0, k0, k0, k0, k0, k0, k0, k0, k0, k0, k0, k0, k0, k0, k0, k0, k0, k0, k0, k0, k0, k0, k0, k0, k0, k0, k0, k0, k0, k0, k0, k0, k0, k0, k0, k0, k0, k0, k0, k0, k0, k0, k0] 600 245 (.t 12) (.t 12)) ::
oo 14 (.build [Value.slice none 0 0, k0, k0, k0, Value.slice none 0 0] [(0, 2, (.t 7)), (2, 1, (.t 8)), (3, 1, (.t 9)), (4, 1, (.t 13))]) ::
oo 15 (.box (.t 14) 158) ::
om 6 15 :: []) []) .ret))
def r39 : List ResultVar := [.tmp 6]
theorem fun39 : Fun Tryz.prog 39 16 3 a39 r39 :=
  ⟨rfl, Tryz.f39, _, rfl, rfl, rfl, by decide, rfl, rfl, rfl⟩
noncomputable def a40 : ACode := (.seq (.reg (
 oo 1 (.box (.t 0) 87) ::
oo 2 (.mv (.c (Value.slice none 0 0))) ::
oo 3 (.mv z0) :: [])) (.seq (.reg (
 oo 11 (.load1 (.t 1)) ::
oc 12 98 [(.t 11)] :: [])) (.seq (.reg (
 oo 13 (.load1 (.t 1)) ::
oo 14 (.nilck (.t 13)) ::
oo 15 (.faddr 0 (.t 14)) ::
oo 16 (.faddr 0 (.t 15)) ::
oo 17 (.load1 (.t 16)) ::
oo 18 (.ixsl 2 (.t 17) z0) ::
oo 19 (.faddr 0 (.t 18)) ::
oo 20 (.load1 (.t 19)) ::
oo 21 (.bslice [k0] [(0, 1, (.t 20))] 1 2) ::
om 4 21 :: [])) (.seq (.seq (.reg (
 oo 22 (.load1 (.t 1)) ::
oo 23 (.nilck (.t 22)) ::
oo 24 (.faddr 0 (.t 23)) ::
oo 25 (.faddr 0 (.t 24)) ::
oo 26 (.load1 (.t 25)) ::
oo 27 (.len (.t 26)) ::
oo 28 (.int .eql (.t 27) z1) :: [])) (.cond (.t 28) (.seq (.reg (
 om 29 4 ::
om 2 29 ::
oo 3 (.mv z0) :: [])) .ret) .skip)) (.seq (.reg (
 oo 30 (.load1 (.t 1)) ::
oc 31 99 [(.t 30), z1] ::
oo 5 (.alloc [k0] 3) ::
oz (.store 1 (.t 5) (.t 31)) :: [])) (.seq (.dreg (
 oo 33 (.load1 (.t 1)) ::
oc 34 99 [(.t 33), z0] ::
oo 35 (.load1 (.t 5)) ::
oo 36 (.int .mul (.t 34) (.t 35)) ::
oo 37 (.mkfn (Fn.func 101) [] [(.t 1), (.t 5)]) ::
oc 38 100 [(.t 36), (.t 37)] ::
om 32 38 ::
oo 39 (.extract (.t 32) 0) ::
oo 40 (.extract (.t 32) 1) ::
om 6 39 ::
om 7 40 :: []) []) (.seq (.dreg (
 om 41 6 ::
oo 42 (.load1 (.t 5)) ::
oo 43 (.idiv true (.t 41) (.t 42)) ::
om 44 6 ::
oo 45 (.load1 (.t 5)) ::
oo 46 (.idiv false (.t 44) (.t 45)) ::
oo 47 (.build [k0] []) ::
oo 48 (.build [k0, k0, k0, k0] [(0, 1, z1), (1, 1, (.t 43)), (2, 1, (.t 46)), (3, 1, (.t 47))]) ::
oo 8 (.alloc [k0, k0, k0, k0] 165) ::
oz (.store 4 (.t 8) (.t 48)) :: []) []) (.seq (.dreg (
 om 49 4 ::
oo 50 (.ixsl 1 (.t 49) z0) ::
oo 51 (.load1 (.t 50)) ::
oo 52 (.faddr 1 (.t 8)) ::
oo 53 (.load1 (.t 52)) ::
oo 54 (.int .add (.t 51) (.t 53)) ::
oo 55 (.ixsl 1 (.t 49) z0) ::
oz (.store 1 (.t 55) (.t 54)) :: []) []) (.seq (.dreg (
 om 56 4 ::
oo 57 (.load1 (.t 1)) ::
oo 58 (.nilck (.t 57)) ::
oo 59 (.faddr 0 (.t 58)) ::
oo 60 (.faddr 0 (.t 59)) ::
oo 61 (.load1 (.t 60)) ::
oo 62 (.ixsl 2 (.t 61) z1) ::
oo 63 (.faddr 0 (.t 62)) ::
oo 64 (.load1 (.t 63)) ::
oo 65 (.faddr 2 (.t 8)) ::
oo 66 (.load1 (.t 65)) ::
oo 67 (.int .add (.t 64) (.t 66)) ::
oo 68 (.bslice [k0] [(0, 1, (.t 67))] 1 2) ::
oo 69 (.append 2 1 8 (.t 56) (.t 68)) ::
om 4 69 :: []) []) (.seq (.block 0 (.loop (.seq (.seq (.dreg (
 oo 70 (.faddr 0 (.t 8)) ::
oo 71 (.load1 (.t 70)) ::
oo 72 (.int .add (.t 71) z1) ::
oo 73 (.load1 (.t 1)) ::
oo 74 (.nilck (.t 73)) ::
oo 75 (.faddr 0 (.t 74)) ::
oo 76 (.faddr 0 (.t 75)) ::
oo 77 (.load1 (.t 76)) ::
oo 78 (.len (.t 77)) ::
oo 79 (.int .lss (.t 72) (.t 78)) :: []) []) (.cond (.t 79) .skip (.exit 0))) (.block 1 (.seq (.reg (
 oo 81 (.load1 (.t 1)) ::
oo 82 (.loadn 4 (.t 8)) ::
oc 83 103 [(.t 81), (.t 82)] ::
om 80 83 ::
oo 84 (.extract (.t 80) 0) ::
oo 85 (.extract (.t 80) 1) ::
om 9 84 ::
om 10 85 :: [])) (.seq (.reg (
 oo 87 (.load1 (.t 1)) ::
oo 88 (.loadn 4 (.t 8)) ::
om 89 9 ::
oc 90 104 [(.t 87), (.t 88), (.t 89)] ::
om 86 90 ::
oo 91 (.extract (.t 86) 0) ::
oo 92 (.extract (.t 86) 1) ::
oz (.store 4 (.t 8) (.t 91)) :: [])) (.dreg (
 om 93 4 ::
oo 94 (.load1 (.t 1)) ::
oo 95 (.nilck (.t 94)) ::
oo 96 (.faddr 0 (.t 95)) ::
oo 97 (.faddr 0 (.t 96)) ::
oo 98 (.load1 (.t 97)) ::
oo 99 (.faddr 0 (.t 8)) ::
oo 100 (.load1 (.t 99)) ::
oo 101 (.ixsl 2 (.t 98) (.t 100)) ::
oo 102 (.faddr 0 (.t 101)) ::
oo 103 (.load1 (.t 102)) ::
om 104 9 ::
oo 105 (.int .add (.t 103) (.t 104)) ::
oo 106 (.bslice [k0] [(0, 1, (.t 105))] 1 2) ::
oo 107 (.append 2 1 8 (.t 93) (.t 106)) ::
om 4 107 :: []) []))))))) (.seq (.reg (
 om 108 4 ::
om 109 7 ::
om 2 108 ::
om 3 109 :: [])) .ret)))))))))))
def r40 : List ResultVar := [.tmp 2, .tmp 3]
theorem fun40 : Fun Tryz.prog 40 110 1 a40 r40 :=
  ⟨rfl, Tryz.f40, _, rfl, rfl, rfl, by decide, rfl, rfl, rfl⟩
noncomputable def a42 : ACode := (.seq (.reg (
 oo 1 (.box (.t 0) 24) ::
oo 2 (.mv z0) :: [])) (.seq (.seq (.reg (
 oo 10 (.faddr 2 (.t 1)) ::
oo 11 (.load1 (.t 10)) ::
oo 12 (.len (.t 11)) ::
oo 13 (.int .lss (.t 12) (.c (Value.int .i64 2))) ::
om 14 13 ::
og 15 14 false (.faddr 2 (.t 1)) ::
og 16 14 false (.load1 (.t 15)) ::
og 17 14 false (.len (.t 16)) ::
og 18 14 false (.int .gtr (.t 17) (.c (Value.int .i64 10))) ::
oo 19 (.pick (.t 14) (.c (Value.bool true)) (.t 18)) :: [])) (.cond (.t 19) (.seq (.reg (
 oo 2 (.mv (.c (Value.int .i64 6))) :: [])) .ret) .skip)) (.seq (.reg (
 oo 20 (.faddr 2 (.t 1)) ::
oo 21 (.load1 (.t 20)) ::
oo 22 (.ixsl 1 (.t 21) z0) ::
oo 23 (.load1 (.t 22)) ::
oo 24 (.len (.t 23)) ::
oo 3 (.alloc [k0] 3) ::
oz (.store 1 (.t 3) (.t 24)) :: [])) (.seq (.seq (.reg (
 oo 25 (.load1 (.t 3)) ::
oo 26 (.int .lss (.t 25) (.c (Value.int .i64 2))) ::
om 27 26 ::
og 28 27 false (.load1 (.t 3)) ::
og 29 27 false (.int .gtr (.t 28) (.c (Value.int .i64 6))) ::
oo 30 (.pick (.t 27) (.c (Value.bool true)) (.t 29)) :: [])) (.cond (.t 30) (.seq (.reg (
 oo 2 (.mv (.c (Value.int .i64 6))) :: [])) .ret) .skip)) (.seq (.seq (.reg (
 oo 31 (.faddr 2 (.t 1)) ::
oo 32 (.load1 (.t 31)) ::
oo 33 (.mkfn (Fn.func 107) [] [(.t 3)]) ::
oc 34 106 [(.t 32), (.t 33)] :: [])) (.cond (.t 34) (.seq (.reg (
 oo 2 (.mv (.c (Value.int .i64 15))) :: [])) .ret) .skip)) (.seq (.reg (
 oo 35 (.faddr 0 (.t 1)) ::
oo 36 (.load1 (.t 35)) ::
oo 37 (.bslice [k0] [(0, 1, (.t 36))] 1 2) ::
oc 38 43 [z1, (.c (Value.int .i64 1000)), (.t 37)] ::
om 39 38 ::
og 40 39 true (.faddr 1 (.t 1)) ::
og 41 39 true (.load1 (.t 40)) ::
og 42 39 true (.bslice [k0] [(0, 1, (.t 41))] 1 2) ::
ocg 43 39 true 43 [z1, (.c (Value.int .i64 100)), (.t 42)] ::
oo 44 (.pick (.t 39) (.t 43) (.c (Value.bool false))) ::
om 4 44 :: [])) (.seq (.reg (
 oo 5 (.mv z0) :: [])) (.seq (.seq (.reg (
 oo 45 (.faddr 2 (.t 1)) ::
oo 46 (.load1 (.t 45)) ::
oo 47 (.len (.t 46)) ::
oo 48 (.mv z0) :: [])) (.block 0 (.loop (.seq (.reg (
 oo 49 (.int .lss (.t 48) (.t 47)) :: [])) (.seq (.cond (.t 49) .skip (.exit 0)) (.seq (.block 1 (.seq (.reg (
 oo 50 (.ixsl 1 (.t 46) (.t 48)) ::
oo 51 (.load1 (.t 50)) ::
om 7 51 :: [])) (.seq (.reg (
 om 52 7 ::
oo 53 (.len (.t 52)) ::
oo 54 (.mv z0) :: [])) (.block 2 (.loop (.seq (.reg (
 oo 55 (.int .lss (.t 54) (.t 53)) :: [])) (.seq (.cond (.t 55) .skip (.exit 2)) (.seq (.block 3 (.seq (.reg (
 oo 56 (.ixsl 2 (.t 52) (.t 54)) ::
oo 57 (.loadn 2 (.t 56)) ::
oo 9 (.alloc [k0, k0] 36) ::
oz (.store 2 (.t 9) (.t 57)) :: [])) (.seq (.reg (
 om 58 4 ::
om 59 58 ::
og 60 59 true (.faddr 0 (.t 9)) ::
og 61 59 true (.load1 (.t 60)) ::
og 62 59 true (.faddr 1 (.t 9)) ::
og 63 59 true (.load1 (.t 62)) ::
og 64 59 true (.bslice [k0, k0] [(0, 1, (.t 61)), (1, 1, (.t 63))] 2 2) ::
ocg 65 59 true 43 [z0, (.c (Value.int .i64 500)), (.t 64)] ::
oo 66 (.pick (.t 59) (.t 65) (.c (Value.bool false))) ::
om 67 66 ::
og 68 67 true (.faddr 1 (.t 9)) ::
og 69 67 true (.load1 (.t 68)) ::
og 70 67 true (.faddr 0 (.t 9)) ::
og 71 67 true (.load1 (.t 70)) ::
og 72 67 true (.int .sub (.t 69) (.t 71)) ::
og 73 67 true (.bslice [k0] [(0, 1, (.t 72))] 1 2) ::
ocg 74 67 true 43 [z0, (.c (Value.int .i64 20)), (.t 73)] ::
oo 75 (.pick (.t 67) (.t 74) (.c (Value.bool false))) ::
om 4 75 :: [])) (.reg (
 om 76 5 ::
oo 77 (.faddr 0 (.t 9)) ::
oo 78 (.load1 (.t 77)) ::
oo 79 (.mnmx true (.t 76) (.t 78)) ::
om 5 79 :: []))))) (.reg (
 oo 80 (.int .add (.t 54) z1) ::
om 54 80 :: [])))))))))) (.reg (
 oo 81 (.int .add (.t 48) z1) ::
om 48 81 :: [])))))))) (.seq (.seq (.reg (
 om 82 4 ::
oo 83 (.not (.t 82)) ::
om 84 83 ::
og 85 84 false (.mv (.t 5)) ::
og 86 84 false (.int .eql (.t 85) z0) ::
oo 87 (.pick (.t 84) (.c (Value.bool true)) (.t 86)) :: [])) (.cond (.t 87) (.seq (.reg (
 oo 2 (.mv (.c (Value.int .i64 2))) :: [])) .ret) .skip)) (.seq (.reg (
 oo 2 (.mv z0) :: [])) .ret))))))))))
def r42 : List ResultVar := [.tmp 2]
theorem fun42 : Fun Tryz.prog 42 88 1 a42 r42 :=
  ⟨rfl, Tryz.f42, _, rfl, rfl, rfl, by decide, rfl, rfl, rfl⟩
noncomputable def a43 : ACode := (.seq (.reg (
 oo 6 (.mv (.c (Value.bool false))) :: [])) (.seq (.reg (
 om 7 2 ::
oc 8 108 [(.t 7)] ::
om 9 0 ::
oo 10 (.int .geq (.t 8) (.t 9)) ::
om 11 10 ::
og 12 11 true (.mv (.t 2)) ::
ocg 13 11 true 109 [(.t 12)] ::
og 14 11 true (.mv (.t 1)) ::
og 15 11 true (.int .leq (.t 13) (.t 14)) ::
oo 16 (.pick (.t 11) (.t 15) (.c (Value.bool false))) ::
om 6 16 :: [])) .ret))
def r43 : List ResultVar := [.tmp 6]
theorem fun43 : Fun Tryz.prog 43 17 3 a43 r43 :=
  ⟨rfl, Tryz.f43, _, rfl, rfl, rfl, by decide, rfl, rfl, rfl⟩
noncomputable def a44A0 : ACode := (.reg (
 oo 7 (.alloc [k0, k0, k0, k0, Value.bool false] 179) ::
oz (.store 5 (.t 7) (.t 13)) :: []))
noncomputable def a44B0 : ACode := (.block 1 (.dreg (
 oo 14 (.load1 (.t 6)) ::
oo 15 (.faddr 2 (.t 7)) ::
oo 16 (.load1 (.t 15)) ::
oo 17 (.load1 (.t 3)) ::
oo 18 (.faddr 0 (.t 7)) ::
oo 19 (.load1 (.t 18)) ::
oo 20 (.ixsl 1 (.t 17) (.t 19)) ::
oo 21 (.load1 (.t 20)) ::
oo 22 (.faddr 1 (.t 7)) ::
oo 23 (.load1 (.t 22)) ::
oo 24 (.ixsl 1 (.t 21) (.t 23)) ::
oo 25 (.load1 (.t 24)) ::
oo 26 (.int .mul (.t 16) (.t 25)) ::
oo 27 (.int .add (.t 14) (.t 26)) ::
oz (.store 1 (.t 6) (.t 27)) :: []) []))
theorem c44A0 : cCode Tryz.prog 36 false (rfAt Tryz.f44 0).1 = some a44A0 := rfl
theorem c44B0 : cCode Tryz.prog 36 false (rfAt Tryz.f44 0).2 = some a44B0 := rfl
noncomputable def a44 : ACode := (.seq (.reg (
 oo 2 (.box (.t 0) 24) ::
oo 3 (.box (.t 1) 32) ::
oo 4 (.alloc [k0, k0] 27) :: [])) (.seq (.reg (
 oo 8 (.loadn 3 (.t 2)) ::
oo 9 (.build [k0, k0, Value.slice none 0 0, k0] [(0, 3, (.t 8)), (3, 1, z0)]) ::
oo 10 (.box (.t 9) 174) ::
om 5 10 :: [])) (.seq (.reg (
 oo 6 (.alloc [k0] 2) ::
oz (.store 1 (.t 6) z0) :: [])) (.seq (.seq (.reg (
 om 11 5 ::
oc 12 110 [(.t 11)] :: [])) (.block 0 (.range (.t 12) [13] 36 (rfAt Tryz.f44 0).1 (rfAt Tryz.f44 0).2 a44A0 a44B0))) (.seq (.reg (
 oo 28 (.faddr 0 (.t 2)) ::
oo 29 (.load1 (.t 28)) ::
oo 30 (.faddr 1 (.t 2)) ::
oo 31 (.load1 (.t 30)) ::
oo 32 (.int .mul (.t 29) (.t 31)) ::
oo 33 (.load1 (.t 6)) ::
oo 34 (.int .mul (.t 32) (.t 33)) ::
oc 35 51 [(.t 34), (.c (Value.int .i64 2))] ::
oz (.store 2 (.t 4) (.t 35)) :: [])) .ret)))))
def r44 : List ResultVar := [.cell 4 27]
theorem fun44 : Fun Tryz.prog 44 36 2 a44 r44 :=
  ⟨rfl, Tryz.f44, _, rfl, rfl, rfl, by decide, rfl, rfl, rfl⟩
noncomputable def a45 : ACode := (.seq (.reg (
 oo 2 (.box (.t 0) 24) ::
oo 4 (.mv (.c (Value.pointer none))) ::
oo 5 (.mv z0) :: [])) (.seq (.seq (.reg (
 oo 7 (.loadn 3 (.t 2)) ::
oc 8 42 [(.t 7)] ::
om 6 8 :: [])) (.seq (.reg (
 om 9 6 ::
oo 10 (.int .neq (.t 9) z0) :: [])) (.cond (.t 10) (.seq (.reg (
 om 11 6 ::
oo 4 (.mv (.c (Value.pointer none))) ::
om 5 11 :: [])) .ret) .skip))) (.seq (.seq (.reg (
 om 12 1 ::
oo 13 (.int .lss (.t 12) z0) ::
om 14 13 ::
og 15 14 false (.mv (.t 1)) ::
og 16 14 false (.int .gtr (.t 15) (.c (Value.int .i64 2))) ::
oo 17 (.pick (.t 14) (.c (Value.bool true)) (.t 16)) :: [])) (.cond (.t 17) (.seq (.reg (
 oo 4 (.mv (.c (Value.pointer none))) ::
oo 5 (.mv (.c (Value.int .i64 3))) :: [])) .ret) .skip)) (.seq (.reg (
 oo 18 (.loadn 3 (.t 2)) ::
om 19 1 ::
oo 20 (.build [k0, k0, Value.slice none 0 0, k0] [(0, 3, (.t 18)), (3, 1, (.t 19))]) ::
oo 21 (.box (.t 20) 174) ::
om 4 21 ::
oo 5 (.mv z0) :: [])) .ret))))
def r45 : List ResultVar := [.tmp 4, .tmp 5]
theorem fun45 : Fun Tryz.prog 45 22 2 a45 r45 :=
  ⟨rfl, Tryz.f45, _, rfl, rfl, rfl, by decide, rfl, rfl, rfl⟩
noncomputable def a46A0 : ACode := (.reg (
 oo 7 (.alloc [k0, k0, k0, k0, Value.bool false] 179) ::
oz (.store 5 (.t 7) (.t 12)) :: []))
noncomputable def a46B0 : ACode := (.block 1 (.seq (.dreg (
 oo 14 (.load1 (.t 2)) ::
oo 15 (.loadn 5 (.t 7)) ::
oo 16 (.load1 (.t 3)) ::
oo 17 (.faddr 0 (.t 7)) ::
oo 18 (.load1 (.t 17)) ::
oo 19 (.ixsl 1 (.t 16) (.t 18)) ::
oo 20 (.load1 (.t 19)) ::
oo 21 (.faddr 1 (.t 7)) ::
oo 22 (.load1 (.t 21)) ::
oo 23 (.ixsl 1 (.t 20) (.t 22)) ::
oo 24 (.load1 (.t 23)) ::
oc 25 111 [(.t 14), (.t 15), (.t 24)] ::
om 13 25 ::
oo 26 (.extract (.t 13) 0) ::
oo 27 (.extract (.t 13) 1) ::
om 8 26 ::
om 9 27 :: []) []) (.dreg (
 oo 28 (.load1 (.t 5)) ::
om 29 8 ::
oo 30 (.int .add (.t 28) (.t 29)) ::
oo 31 (.load1 (.t 6)) ::
om 32 9 ::
oo 33 (.int .add (.t 31) (.t 32)) ::
oz (.store 1 (.t 5) (.t 30)) ::
oz (.store 1 (.t 6) (.t 33)) :: []) [((.t 6), (.t 5))])))
theorem c46A0 : cCode Tryz.prog 37 false (rfAt Tryz.f46 0).1 = some a46A0 := rfl
theorem c46B0 : cCode Tryz.prog 37 false (rfAt Tryz.f46 0).2 = some a46B0 := rfl
noncomputable def a46 : ACode := (.seq (.reg (
 oo 2 (.box (.t 0) 93) ::
oo 3 (.box (.t 1) 32) ::
oo 4 (.alloc [k0, k0] 27) :: [])) (.seq (.reg (
 oo 5 (.alloc [k0] 2) ::
oo 6 (.alloc [k0] 2) ::
oz (.store 1 (.t 5) z0) ::
oz (.store 1 (.t 6) z0) :: [])) (.seq (.seq (.reg (
 oo 10 (.load1 (.t 2)) ::
oc 11 110 [(.t 10)] :: [])) (.block 0 (.range (.t 11) [12] 37 (rfAt Tryz.f46 0).1 (rfAt Tryz.f46 0).2 a46A0 a46B0))) (.seq (.reg (
 oo 34 (.load1 (.t 5)) ::
oo 35 (.load1 (.t 6)) ::
oc 36 51 [(.t 34), (.t 35)] ::
oz (.store 2 (.t 4) (.t 36)) :: [])) .ret))))
def r46 : List ResultVar := [.cell 4 27]
theorem fun46 : Fun Tryz.prog 46 37 2 a46 r46 :=
  ⟨rfl, Tryz.f46, _, rfl, rfl, rfl, by decide, rfl, rfl, rfl⟩
noncomputable def a47 : ACode := (.seq (.reg (
 oo 2 (.box (.t 0) 24) ::
oo 4 (.mv (.c (Value.slice none 0 0))) :: [])) (.seq (.reg (
 oo 5 (.mv (.c (Value.slice none 0 0))) :: [])) (.seq (.seq (.reg (
 oo 11 (.faddr 2 (.t 2)) ::
oo 12 (.load1 (.t 11)) ::
oo 13 (.len (.t 12)) ::
oo 14 (.mv z0) :: [])) (.block 0 (.loop (.seq (.reg (
 oo 15 (.int .lss (.t 14) (.t 13)) :: [])) (.seq (.cond (.t 15) .skip (.exit 0)) (.seq (.block 1 (.seq (.reg (
 om 16 14 ::
oo 17 (.ixsl 1 (.t 12) (.t 14)) ::
oo 18 (.load1 (.t 17)) ::
om 6 16 ::
om 7 18 :: [])) (.seq (.reg (
 om 19 7 ::
oo 20 (.len (.t 19)) ::
oo 21 (.mkslice [k0] 8 2 (.t 20) (.t 20)) ::
om 8 21 :: [])) (.seq (.seq (.reg (
 om 22 7 ::
oo 23 (.len (.t 22)) ::
oo 24 (.mv z0) :: [])) (.block 2 (.loop (.seq (.reg (
 oo 25 (.int .lss (.t 24) (.t 23)) :: [])) (.seq (.cond (.t 25) .skip (.exit 2)) (.seq (.block 3 (.seq (.reg (
 om 26 24 ::
oo 27 (.ixsl 2 (.t 22) (.t 24)) ::
oo 28 (.loadn 2 (.t 27)) ::
oo 10 (.alloc [k0, k0] 36) ::
om 9 26 ::
oz (.store 2 (.t 10) (.t 28)) :: [])) (.reg (
 om 29 8 ::
om 30 9 ::
om 31 1 ::
om 32 6 ::
om 33 9 ::
oo 34 (.loadn 2 (.t 10)) ::
⟨(some 35), none, (.call (.t 31) [(.t 32), (.t 33), (.t 34)])⟩ ::
oo 36 (.ixsl 1 (.t 29) (.t 30)) ::
oz (.store 1 (.t 36) (.t 35)) :: [])))) (.reg (
 oo 37 (.int .add (.t 24) z1) ::
om 24 37 :: [])))))))) (.reg (
 om 38 5 ::
om 39 8 ::
oo 40 (.bslice [Value.slice none 0 0] [(0, 1, (.t 39))] 1 38) ::
oo 41 (.append 38 1 24 (.t 38) (.t 40)) ::
om 5 41 :: [])))))) (.reg (
 oo 42 (.int .add (.t 14) z1) ::
om 14 42 :: [])))))))) (.seq (.reg (
 om 43 5 ::
om 4 43 :: [])) .ret))))
def r47 : List ResultVar := [.tmp 4]
theorem fun47 : Fun Tryz.prog 47 44 2 a47 r47 :=
  ⟨rfl, Tryz.f47, _, rfl, rfl, rfl, by decide, rfl, rfl, rfl⟩
noncomputable def a48 : ACode := (.seq (.reg (
 oo 5 (.box (.t 2) 36) ::
oo 6 (.mv z0) :: [])) (.seq (.reg (
 oo 7 (.faddr 0 (.t 5)) ::
oo 8 (.load1 (.t 7)) ::
om 6 8 :: [])) .ret))
def r48 : List ResultVar := [.tmp 6]
theorem fun48 : Fun Tryz.prog 48 9 3 a48 r48 :=
  ⟨rfl, Tryz.f48, _, rfl, rfl, rfl, by decide, rfl, rfl, rfl⟩
noncomputable def a49 : ACode := (.seq (.reg (
 oo 5 (.box (.t 2) 36) ::
oo 6 (.mv z0) :: [])) (.seq (.reg (
 oo 7 (.faddr 1 (.t 5)) ::
oo 8 (.load1 (.t 7)) ::
om 6 8 :: [])) .ret))
def r49 : List ResultVar := [.tmp 6]
theorem fun49 : Fun Tryz.prog 49 9 3 a49 r49 :=
  ⟨rfl, Tryz.f49, _, rfl, rfl, rfl, by decide, rfl, rfl, rfl⟩
noncomputable def a50 : ACode := (.seq (.reg (
 oo 4 (.mv (.c (Value.slice none 0 0))) ::
oo 5 (.alloc [k0, k0] 27) :: [])) (.seq (.reg (
 om 11 0 ::
oo 12 (.nilck (.t 11)) ::
oo 13 (.faddr 0 (.t 12)) ::
oo 14 (.loadn 3 (.t 13)) ::
oc 15 47 [(.t 14), (.c (Value.func (.func 112) #[] #[]))] ::
om 6 15 :: [])) (.seq (.reg (
 om 16 0 ::
om 17 6 ::
oc 18 46 [(.t 16), (.t 17)] ::
oo 7 (.alloc [k0, k0] 27) ::
oz (.store 2 (.t 7) (.t 18)) :: [])) (.seq .skip (.seq (.block 0 (.loop (.block 1 (.seq (.reg (
 om 20 0 ::
oo 21 (.loadn 2 (.t 7)) ::
om 22 1 ::
oc 23 52 [(.t 20), (.t 21), (.t 22)] ::
om 19 23 ::
oo 24 (.extract (.t 19) 0) ::
oo 25 (.extract (.t 19) 1) ::
om 8 24 ::
om 9 25 :: [])) (.seq (.reg (
 om 26 0 ::
om 27 8 ::
oc 28 46 [(.t 26), (.t 27)] ::
oo 10 (.alloc [k0, k0] 27) ::
oz (.store 2 (.t 10) (.t 28)) :: [])) (.seq (.seq (.reg (
 oo 29 (.loadn 2 (.t 10)) ::
oo 30 (.loadn 2 (.t 7)) ::
oo 31 (.pure (rawOp Tryz.f50 5 2)) :: [])) (.cond (.t 31) (.exit 0) .skip)) (.dreg (
 om 32 8 ::
oo 33 (.loadn 2 (.t 10)) ::
om 6 32 ::
oz (.store 2 (.t 7) (.t 33)) :: []) []))))))) (.seq (.dreg (
 om 34 6 ::
oo 35 (.loadn 2 (.t 7)) ::
om 4 34 ::
oz (.store 2 (.t 5) (.t 35)) :: []) []) .ret))))))
def r50 : List ResultVar := [.tmp 4, .cell 5 27]
theorem fun50 : Fun Tryz.prog 50 36 2 a50 r50 :=
  ⟨rfl, Tryz.f50, _, rfl, rfl, rfl, by decide, rfl, rfl, rfl⟩
noncomputable def a51 : ACode := (.seq (.reg (
 oo 4 (.alloc [k0, k0] 27) :: [])) (.seq (.reg (
 om 6 0 ::
om 7 1 ::
oc 8 113 [(.t 6), (.t 7)] ::
om 5 8 :: [])) (.seq (.dreg (
 om 9 0 ::
om 10 5 ::
oo 11 (.idiv true (.t 9) (.t 10)) ::
om 12 1 ::
om 13 5 ::
oo 14 (.idiv true (.t 12) (.t 13)) ::
oo 15 (.build [k0, k0] [(0, 1, (.t 11)), (1, 1, (.t 14))]) ::
oz (.store 2 (.t 4) (.t 15)) :: []) []) .ret)))
def r51 : List ResultVar := [.cell 4 27]
theorem fun51 : Fun Tryz.prog 51 16 2 a51 r51 :=
  ⟨rfl, Tryz.f51, _, rfl, rfl, rfl, by decide, rfl, rfl, rfl⟩
noncomputable def a52A0 : ACode := (.reg (
 oo 10 (.alloc [k0, k0, k0, k0, Value.bool false] 179) ::
oz (.store 5 (.t 10) (.t 22)) :: []))
noncomputable def a52B0 : ACode := (.block 1 (.seq (.reg (
 oo 23 (.mkfn (Fn.func 115) [] [(.t 3), (.t 10), (.t 4)]) ::
om 11 23 :: [])) (.seq (.dreg (
 oo 24 (.load1 (.t 3)) ::
oo 25 (.nilck (.t 24)) ::
oo 26 (.faddr 0 (.t 25)) ::
oo 27 (.faddr 2 (.t 26)) ::
oo 28 (.load1 (.t 27)) ::
oo 29 (.faddr 0 (.t 10)) ::
oo 30 (.load1 (.t 29)) ::
oo 31 (.ixsl 1 (.t 28) (.t 30)) ::
oo 32 (.load1 (.t 31)) ::
oo 33 (.faddr 1 (.t 10)) ::
oo 34 (.load1 (.t 33)) ::
oo 35 (.ixsl 2 (.t 32) (.t 34)) ::
oo 36 (.loadn 2 (.t 35)) ::
oo 12 (.alloc [k0, k0] 36) ::
oz (.store 2 (.t 12) (.t 36)) :: []) []) (.seq (.reg (
 oo 37 (.faddr 0 (.t 12)) ::
oo 38 (.load1 (.t 37)) ::
om 13 38 :: [])) (.seq (.seq (.reg (
 oo 39 (.faddr 0 (.t 12)) ::
oo 40 (.load1 (.t 39)) ::
oo 41 (.int .add (.t 40) z1) ::
om 14 41 :: [])) (.block 2 (.loop (.seq (.seq (.reg (
 om 42 14 ::
oo 43 (.faddr 1 (.t 12)) ::
oo 44 (.load1 (.t 43)) ::
oo 45 (.int .leq (.t 42) (.t 44)) :: [])) (.cond (.t 45) .skip (.exit 2))) (.seq (.block 3 (.seq (.dreg (
 oo 48 (.load1 (.t 5)) ::
om 49 11 ::
om 50 14 ::
⟨(some 51), none, (.call (.t 49) [(.t 50)])⟩ ::
oo 52 (.int .mul (.t 48) (.t 51)) ::
oo 53 (.load1 (.t 5)) ::
om 54 11 ::
om 55 13 ::
⟨(some 56), none, (.call (.t 54) [(.t 55)])⟩ ::
oo 57 (.int .mul (.t 53) (.t 56)) ::
oo 58 (.int .gtr (.t 52) (.t 57)) :: []) []) (.cond (.t 58) (.reg (
 om 59 14 ::
om 13 59 :: [])) .skip))) (.reg (
 om 46 14 ::
oo 47 (.int .add (.t 46) z1) ::
om 14 47 :: []))))))) (.seq (.dreg (
 oo 60 (.load1 (.t 8)) ::
oo 61 (.faddr 0 (.t 10)) ::
oo 62 (.load1 (.t 61)) ::
oo 63 (.ixsl 1 (.t 60) (.t 62)) ::
oo 64 (.load1 (.t 63)) ::
oo 65 (.faddr 1 (.t 10)) ::
oo 66 (.load1 (.t 65)) ::
om 67 13 ::
oo 68 (.ixsl 1 (.t 64) (.t 66)) ::
oz (.store 1 (.t 68) (.t 67)) :: []) []) (.dreg (
 oo 69 (.load1 (.t 9)) ::
om 70 11 ::
om 71 13 ::
⟨(some 72), none, (.call (.t 70) [(.t 71)])⟩ ::
oo 73 (.int .add (.t 69) (.t 72)) ::
oz (.store 1 (.t 9) (.t 73)) :: []) [])))))))
theorem c52A0 : cCode Tryz.prog 76 false (rfAt Tryz.f52 0).1 = some a52A0 := rfl
theorem c52B0 : cCode Tryz.prog 76 false (rfAt Tryz.f52 0).2 = some a52B0 := rfl
noncomputable def a52 : ACode := (.seq (.reg (
 oo 3 (.box (.t 0) 93) ::
oo 4 (.box (.t 1) 27) ::
oo 5 (.box (.t 2) 2) ::
oo 6 (.mv (.c (Value.slice none 0 0))) ::
oo 7 (.mv z0) :: [])) (.seq (.reg (
 oo 15 (.load1 (.t 3)) ::
oo 16 (.nilck (.t 15)) ::
oo 17 (.faddr 0 (.t 16)) ::
oo 18 (.loadn 3 (.t 17)) ::
oc 19 47 [(.t 18), (.c (Value.func (.func 114) #[] #[]))] ::
oo 8 (.alloc [Value.slice none 0 0] 32) ::
oz (.store 1 (.t 8) (.t 19)) :: [])) (.seq (.reg (
 oo 9 (.alloc [k0] 2) ::
oz (.store 1 (.t 9) z0) :: [])) (.seq (.seq (.reg (
 oo 20 (.load1 (.t 3)) ::
oc 21 110 [(.t 20)] :: [])) (.block 0 (.range (.t 21) [22] 76 (rfAt Tryz.f52 0).1 (rfAt Tryz.f52 0).2 a52A0 a52B0))) (.seq (.dreg (
 oo 74 (.load1 (.t 8)) ::
oo 75 (.load1 (.t 9)) ::
om 6 74 ::
om 7 75 :: []) []) .ret)))))
def r52 : List ResultVar := [.tmp 6, .tmp 7]
theorem fun52 : Fun Tryz.prog 52 76 3 a52 r52 :=
  ⟨rfl, Tryz.f52, _, rfl, rfl, rfl, by decide, rfl, rfl, rfl⟩
noncomputable def a54 : ACode := (.seq (.reg (
 oo 0 (.mv (.c (Value.bool false))) :: [])) (.seq (.reg (
 oc 14 116 [] ::
oo 1 (.alloc [k0, k0, k0, k0, k0, k0, k0, k0, k0, k0, k0, k0, k0, k0, k0, k0] 70) ::
oz (.store 16 (.t 1) (.t 14)) :: [])) (.seq (.reg (
 oc 16 117 [] ::
oc 17 22 [(.t 16), (.c (Value.int .i64 13))] ::
om 15 17 ::
oo 18 (.extract (.t 15) 0) ::
oo 19 (.extract (.t 15) 1) ::
om 2 18 ::
om 3 19 :: [])) (.seq (.reg (
 oo 21 (.loadn 16 (.t 1)) ::
oc 22 31 [(.t 21)] ::
om 20 22 ::
oo 23 (.extract (.t 20) 0) ::
oo 24 (.extract (.t 20) 1) ::
oo 25 (.extract (.t 20) 2) ::
oo 4 (.alloc [k0, k0] 36) ::
oo 5 (.alloc [k0, k0] 36) ::
oz (.store 2 (.t 4) (.t 23)) ::
oz (.store 2 (.t 5) (.t 24)) ::
om 6 25 :: [])) (.seq (.dreg (
 oo 27 (.loadn 16 (.t 1)) ::
oc 28 117 [] ::
oo 29 (.build [k0, k0, k0, k0, k0, k0] [(0, 1, (.c (Value.int .i64 2))), (1, 1, (.c (Value.int .i64 1000))), (2, 1, (.c (Value.int .i64 2000))), (3, 1, (.c (Value.int .i64 200))), (4, 1, (.c (Value.int .i64 100)))]) ::
oc 30 28 [(.t 27), (.t 28), (.t 29)] ::
om 26 30 ::
oo 31 (.extract (.t 26) 0) ::
oo 32 (.extract (.t 26) 1) ::
om 7 31 ::
om 8 32 :: []) []) (.seq (.dreg (
 oo 34 (.loadn 16 (.t 1)) ::
oc 35 117 [] ::
oc 36 118 [] ::
oo 37 (.bslice [Value.slice none 0 0, Value.slice none 0 0, Value.slice none 0 0, Value.slice none 0 0] [(0, 2, (.t 35)), (2, 2, (.t 36))] 2 59) ::
oc 38 27 [(.t 34), (.t 37)] ::
om 33 38 ::
oo 39 (.extract (.t 33) 0) ::
oo 40 (.extract (.t 33) 1) ::
oo 9 (.alloc [k0, k0] 36) ::
oz (.store 2 (.t 9) (.t 39)) ::
om 10 40 :: []) []) (.seq (.dreg (
 oo 42 (.loadn 16 (.t 1)) ::
oo 43 (.loadn 16 (.t 1)) ::
oo 44 (.bslice [k0, k0, k0, k0, k0, k0, k0, k0, k0, k0, k0, k0, k0, k0, k0, k0, k0, k0, k0, k0, k0, k0, k0, k0, k0, k0, k0, k0, k0, k0, k0, k0] [(0, 16, (.t 42)), (16, 16, (.t 43))] 2 70) ::
oc 45 117 [] ::
oo 46 (.bslice [Value.slice none 0 0, Value.slice none 0 0] [(0, 2, (.t 45))] 1 59) ::
oo 47 (.bslice [k0, k0] [(0, 1, (.c (Value.int .i64 590))), (1, 1, (.c (Value.int .i64 589)))] 2 2) ::
oc 48 119 [(.t 44), (.t 46), (.t 47)] ::
om 41 48 ::
oo 49 (.extract (.t 41) 0) ::
oo 50 (.extract (.t 41) 1) ::
oo 51 (.extract (.t 41) 2) ::
om 11 49 ::
om 12 50 ::
om 13 51 :: []) []) (.seq (.reg (
 om 52 3 ::
oo 53 (.int .eql (.t 52) z0) ::
om 54 53 ::
og 55 54 true (.mv (.t 6)) ::
og 56 54 true (.int .eql (.t 55) z0) ::
oo 57 (.pick (.t 54) (.t 56) (.c (Value.bool false))) ::
om 58 57 ::
og 59 58 true (.mv (.t 8)) ::
og 60 58 true (.int .eql (.t 59) z0) ::
oo 61 (.pick (.t 58) (.t 60) (.c (Value.bool false))) ::
om 62 61 ::
og 63 62 true (.mv (.t 10)) ::
og 64 62 true (.int .eql (.t 63) z0) ::
oo 65 (.pick (.t 62) (.t 64) (.c (Value.bool false))) ::
om 66 65 ::
og 67 66 true (.mv (.t 13)) ::
og 68 66 true (.int .eql (.t 67) z0) ::
oo 69 (.pick (.t 66) (.t 68) (.c (Value.bool false))) ::
om 70 69 ::
og 71 70 true (.mv (.t 2)) ::
og 72 70 true (.int .eql (.t 71) (.c (Value.int .i64 88))) ::
oo 73 (.pick (.t 70) (.t 72) (.c (Value.bool false))) ::
om 74 73 ::
og 75 74 true (.loadn 2 (.t 4)) ::
og 76 74 true (.build [k0, k0] [(0, 1, (.c (Value.int .i64 10))), (1, 1, (.c (Value.int .i64 20)))]) ::
og 77 74 true (.pure (rawOp Tryz.f54 7 25)) ::
oo 78 (.pick (.t 74) (.t 77) (.c (Value.bool false))) ::
om 79 78 ::
og 80 79 true (.loadn 2 (.t 5)) ::
og 81 79 true (.build [k0, k0] [(0, 1, (.c (Value.int .i64 32))), (1, 1, (.c (Value.int .i64 40)))]) ::
og 82 79 true (.pure (rawOp Tryz.f54 7 30)) ::
oo 83 (.pick (.t 79) (.t 82) (.c (Value.bool false))) ::
om 84 83 ::
og 85 84 true (.mv (.t 7)) ::
og 86 84 true (.int .eql (.t 85) (.c (Value.int .i64 288))) ::
oo 87 (.pick (.t 84) (.t 86) (.c (Value.bool false))) ::
om 88 87 ::
og 89 88 true (.loadn 2 (.t 9)) ::
og 90 88 true (.build [k0, k0] [(0, 1, (.c (Value.int .i64 288))), (1, 1, (.c (Value.int .i64 590)))]) ::
og 91 88 true (.pure (rawOp Tryz.f54 7 39)) ::
oo 92 (.pick (.t 88) (.t 91) (.c (Value.bool false))) ::
om 93 92 ::
og 94 93 true (.mv (.t 11)) ::
og 95 93 true (.int .eql (.t 94) z1) ::
oo 96 (.pick (.t 93) (.t 95) (.c (Value.bool false))) ::
om 97 96 ::
og 98 97 true (.mv (.t 12)) ::
og 99 97 true (.int .eql (.t 98) (.c (Value.int .i64 2))) ::
oo 100 (.pick (.t 97) (.t 99) (.c (Value.bool false))) ::
om 0 100 :: [])) .ret))))))))
def r54 : List ResultVar := [.tmp 0]
theorem fun54 : Fun Tryz.prog 54 101 0 a54 r54 :=
  ⟨rfl, Tryz.f54, _, rfl, rfl, rfl, by decide, rfl, rfl, rfl⟩
noncomputable def a55 : ACode := (.seq (.reg (
 oo 6 (.mv (.c (Value.bool false))) :: [])) (.seq (.reg (
 om 7 0 ::
om 8 1 ::
oo 9 (.int .geq (.t 7) (.t 8)) ::
om 10 9 ::
og 11 10 true (.mv (.t 0)) ::
og 12 10 true (.mv (.t 2)) ::
og 13 10 true (.int .leq (.t 11) (.t 12)) ::
oo 14 (.pick (.t 10) (.t 13) (.c (Value.bool false))) ::
om 6 14 :: [])) .ret))
def r55 : List ResultVar := [.tmp 6]
theorem fun55 : Fun Tryz.prog 55 15 3 a55 r55 :=
  ⟨rfl, Tryz.f55, _, rfl, rfl, rfl, by decide, rfl, rfl, rfl⟩
noncomputable def a56 : ACode := (.seq (.reg (
 oo 1 (.box (.t 0) 59) ::
oo 2 (.mv z0) :: [])) (.seq (.block 0 (.seq (.reg (
 oo 8 (.faddr 0 (.t 1)) ::
oo 9 (.load1 (.t 8)) ::
oo 10 (.len (.t 9)) ::
oo 11 (.int .lss (.t 10) (.c (Value.int .i64 2))) ::
om 12 11 ::
og 13 12 false (.faddr 0 (.t 1)) ::
og 14 12 false (.load1 (.t 13)) ::
og 15 12 false (.len (.t 14)) ::
og 16 12 false (.int .gtr (.t 15) (.c (Value.int .i64 12))) ::
oo 17 (.pick (.t 12) (.c (Value.bool true)) (.t 16)) ::
om 7 17 :: [])) (.cond (.t 7) (.seq (.reg (
 oo 2 (.mv (.c (Value.int .i64 6))) :: [])) .ret) (.seq (.reg (
 oo 19 (.faddr 1 (.t 1)) ::
oo 20 (.load1 (.t 19)) ::
oo 21 (.len (.t 20)) ::
oo 22 (.faddr 0 (.t 1)) ::
oo 23 (.load1 (.t 22)) ::
oo 24 (.len (.t 23)) ::
oo 25 (.int .neq (.t 21) (.t 24)) ::
om 18 25 :: [])) (.cond (.t 18) (.seq (.reg (
 oo 2 (.mv (.c (Value.int .i64 15))) :: [])) .ret) .skip))))) (.seq (.reg (
 oo 3 (.mv z0) ::
oo 4 (.mv (.c (Value.int .i64 100000))) :: [])) (.seq (.seq (.reg (
 oo 26 (.faddr 0 (.t 1)) ::
oo 27 (.load1 (.t 26)) ::
oo 28 (.len (.t 27)) ::
oo 29 (.mv z0) :: [])) (.block 1 (.loop (.seq (.reg (
 oo 30 (.int .lss (.t 29) (.t 28)) :: [])) (.seq (.cond (.t 30) .skip (.exit 1)) (.seq (.block 2 (.seq (.reg (
 om 31 29 ::
oo 32 (.ixsl 1 (.t 27) (.t 29)) ::
oo 33 (.load1 (.t 32)) ::
om 5 31 ::
om 6 33 :: [])) (.seq (.seq (.dreg (
 om 34 6 ::
om 35 3 ::
oo 36 (.int .add (.t 35) z1) ::
oc 37 70 [(.t 34), (.t 36), (.c (Value.int .i64 1000000000))] ::
oo 38 (.faddr 1 (.t 1)) ::
oo 39 (.load1 (.t 38)) ::
om 40 5 ::
oo 41 (.ixsl 1 (.t 39) (.t 40)) ::
oo 42 (.load1 (.t 41)) ::
om 43 4 ::
oc 44 70 [(.t 42), z0, (.t 43)] ::
oo 45 (.bslice [k0, k0, k0, k0, k0, k0, k0, k0] [(0, 4, (.t 37)), (4, 4, (.t 44))] 2 126) ::
oc 46 69 [(.t 45)] ::
oc 47 68 [(.t 46)] ::
oo 48 (.not (.t 47)) :: []) []) (.cond (.t 48) (.seq (.reg (
 oo 2 (.mv (.c (Value.int .i64 2))) :: [])) .ret) .skip)) (.dreg (
 om 49 6 ::
oo 50 (.faddr 1 (.t 1)) ::
oo 51 (.load1 (.t 50)) ::
om 52 5 ::
oo 53 (.ixsl 1 (.t 51) (.t 52)) ::
oo 54 (.load1 (.t 53)) ::
om 3 49 ::
om 4 54 :: []) [])))) (.reg (
 oo 55 (.int .add (.t 29) z1) ::
om 29 55 :: [])))))))) (.seq (.reg (
 oo 2 (.mv z0) :: [])) .ret)))))
def r56 : List ResultVar := [.tmp 2]
theorem fun56 : Fun Tryz.prog 56 56 1 a56 r56 :=
  ⟨rfl, Tryz.f56, _, rfl, rfl, rfl, by decide, rfl, rfl, rfl⟩
noncomputable def a57 : ACode := (.seq (.reg (
 oo 2 (.box (.t 0) 106) ::
oo 3 (.box (.t 1) 36) ::
oo 4 (.mv (.c (Value.bool false))) :: [])) (.seq (.reg (
 oo 6 (.loadn 2 (.t 2)) ::
oc 7 120 [(.t 6)] ::
oo 5 (.alloc [k0, k0] 187) ::
oz (.store 2 (.t 5) (.t 7)) :: [])) (.seq (.reg (
 oo 8 (.faddr 0 (.t 3)) ::
oo 9 (.load1 (.t 8)) ::
oo 10 (.ixarr 2 1 (.t 5) z0) ::
oo 11 (.load1 (.t 10)) ::
oo 12 (.int .geq (.t 9) (.t 11)) ::
om 13 12 ::
og 14 13 true (.faddr 1 (.t 3)) ::
og 15 13 true (.load1 (.t 14)) ::
og 16 13 true (.ixarr 2 1 (.t 5) z1) ::
og 17 13 true (.load1 (.t 16)) ::
og 18 13 true (.int .leq (.t 15) (.t 17)) ::
oo 19 (.pick (.t 13) (.t 18) (.c (Value.bool false))) ::
om 4 19 :: [])) .ret)))
def r57 : List ResultVar := [.tmp 4]
theorem fun57 : Fun Tryz.prog 57 20 2 a57 r57 :=
  ⟨rfl, Tryz.f57, _, rfl, rfl, rfl, by decide, rfl, rfl, rfl⟩
noncomputable def a58 : ACode := (.seq (.reg (
 oo 2 (.box (.t 0) 106) ::
oo 4 (.mv z0) :: [])) (.seq (.reg (
 oo 7 (.faddr 0 (.t 2)) ::
oo 8 (.faddr 0 (.t 7)) ::
oo 9 (.load1 (.t 8)) ::
om 10 1 ::
oc 11 121 [(.t 9), (.t 10)] ::
om 5 11 :: [])) (.seq (.seq (.reg (
 oo 12 (.faddr 0 (.t 2)) ::
oo 13 (.faddr 0 (.t 12)) ::
oo 14 (.load1 (.t 13)) ::
om 15 5 ::
oo 16 (.ixsl 1 (.t 14) (.t 15)) ::
oo 17 (.load1 (.t 16)) ::
om 18 1 ::
oo 19 (.int .eql (.t 17) (.t 18)) :: [])) (.cond (.t 19) (.seq (.reg (
 oo 20 (.faddr 0 (.t 2)) ::
oo 21 (.faddr 1 (.t 20)) ::
oo 22 (.load1 (.t 21)) ::
om 23 5 ::
oo 24 (.ixsl 1 (.t 22) (.t 23)) ::
oo 25 (.load1 (.t 24)) ::
om 4 25 :: [])) .ret) .skip)) (.seq (.dreg (
 oo 26 (.faddr 0 (.t 2)) ::
oo 27 (.faddr 1 (.t 26)) ::
oo 28 (.load1 (.t 27)) ::
om 29 5 ::
oo 30 (.int .sub (.t 29) z1) ::
oo 31 (.ixsl 1 (.t 28) (.t 30)) ::
oo 32 (.load1 (.t 31)) ::
oo 33 (.faddr 0 (.t 2)) ::
oo 34 (.faddr 1 (.t 33)) ::
oo 35 (.load1 (.t 34)) ::
om 36 5 ::
oo 37 (.ixsl 1 (.t 35) (.t 36)) ::
oo 38 (.load1 (.t 37)) ::
oo 39 (.int .sub (.t 32) (.t 38)) ::
om 40 1 ::
oo 41 (.faddr 0 (.t 2)) ::
oo 42 (.faddr 0 (.t 41)) ::
oo 43 (.load1 (.t 42)) ::
om 44 5 ::
oo 45 (.int .sub (.t 44) z1) ::
oo 46 (.ixsl 1 (.t 43) (.t 45)) ::
oo 47 (.load1 (.t 46)) ::
oo 48 (.int .sub (.t 40) (.t 47)) ::
oo 49 (.int .mul (.t 39) (.t 48)) ::
oo 50 (.faddr 0 (.t 2)) ::
oo 51 (.faddr 0 (.t 50)) ::
oo 52 (.load1 (.t 51)) ::
om 53 5 ::
oo 54 (.ixsl 1 (.t 52) (.t 53)) ::
oo 55 (.load1 (.t 54)) ::
oo 56 (.faddr 0 (.t 2)) ::
oo 57 (.faddr 0 (.t 56)) ::
oo 58 (.load1 (.t 57)) ::
om 59 5 ::
oo 60 (.int .sub (.t 59) z1) ::
oo 61 (.ixsl 1 (.t 58) (.t 60)) ::
oo 62 (.load1 (.t 61)) ::
oo 63 (.int .sub (.t 55) (.t 62)) ::
oo 64 (.idiv true (.t 49) (.t 63)) ::
om 6 64 :: []) []) (.seq (.reg (
 oo 65 (.faddr 0 (.t 2)) ::
oo 66 (.faddr 1 (.t 65)) ::
oo 67 (.load1 (.t 66)) ::
om 68 5 ::
oo 69 (.int .sub (.t 68) z1) ::
oo 70 (.ixsl 1 (.t 67) (.t 69)) ::
oo 71 (.load1 (.t 70)) ::
om 72 6 ::
oo 73 (.int .sub (.t 71) (.t 72)) ::
om 4 73 :: [])) .ret)))))
def r58 : List ResultVar := [.tmp 4]
theorem fun58 : Fun Tryz.prog 58 74 2 a58 r58 :=
  ⟨rfl, Tryz.f58, _, rfl, rfl, rfl, by decide, rfl, rfl, rfl⟩
noncomputable def a59 : ACode := (.seq (.reg (
 oo 3 (.box (.t 0) 2) ::
oo 4 (.box (.t 1) 2) ::
oo 6 (.mv (.c (Value.bool false))) :: [])) (.seq (.reg (
 om 7 2 ::
oo 8 (.mkfn (Fn.func 123) [] [(.t 3), (.t 4)]) ::
oc 9 122 [(.t 7), (.t 8)] ::
oo 10 (.not (.t 9)) ::
om 6 10 :: [])) .ret))
def r59 : List ResultVar := [.tmp 6]
theorem fun59 : Fun Tryz.prog 59 11 3 a59 r59 :=
  ⟨rfl, Tryz.f59, _, rfl, rfl, rfl, by decide, rfl, rfl, rfl⟩
noncomputable def a60 : ACode := (.seq (.reg (
 oo 2 (.mv z0) ::
oo 3 (.mv z0) :: [])) (.seq (.reg (
 oo 4 (.mv z0) ::
oo 5 (.mv z0) :: [])) (.seq (.reg (
 oo 6 (.alloc [k0] 163) :: [])) (.seq (.seq (.reg (
 oo 7 (.mv z1) :: [])) (.block 0 (.loop (.seq (.seq (.reg (
 om 12 7 ::
oo 13 (.int .add (.t 12) z1) ::
om 14 0 ::
oo 15 (.len (.t 14)) ::
oo 16 (.int .lss (.t 13) (.t 15)) :: [])) (.cond (.t 16) .skip (.exit 0))) (.seq (.block 1 (.seq (.dreg (
 om 19 0 ::
om 20 7 ::
oo 21 (.int .sub (.t 20) z1) ::
oo 22 (.ixsl 1 (.t 19) (.t 21)) ::
oo 23 (.load1 (.t 22)) ::
om 24 0 ::
om 25 7 ::
oo 26 (.ixsl 1 (.t 24) (.t 25)) ::
oo 27 (.load1 (.t 26)) ::
oo 28 (.int .mul (.c (Value.int .i64 2)) (.t 27)) ::
oo 29 (.int .sub (.t 23) (.t 28)) ::
om 30 0 ::
om 31 7 ::
oo 32 (.int .add (.t 31) z1) ::
oo 33 (.ixsl 1 (.t 30) (.t 32)) ::
oo 34 (.load1 (.t 33)) ::
oo 35 (.int .add (.t 29) (.t 34)) ::
om 8 35 :: []) []) (.seq (.reg (
 oo 36 (.loadn 1 (.t 6)) ::
oo 37 (.mkfn (Fn.func 124) [(.t 36)] []) ::
om 9 37 :: [])) (.seq (.reg (
 om 39 9 ::
om 40 8 ::
⟨(some 41), none, (.call (.t 39) [(.t 40)])⟩ ::
om 38 41 ::
oo 42 (.extract (.t 38) 0) ::
oo 43 (.extract (.t 38) 1) ::
oo 10 (.alloc [k0] 163) ::
oz (.store 1 (.t 10) (.t 42)) ::
om 11 43 :: [])) (.seq (.reg (
 oo 44 (.loadn 1 (.t 10)) ::
oz (.store 1 (.t 6) (.t 44)) :: [])) (.seq (.reg (
 om 45 4 ::
om 46 11 ::
oo 47 (.int .add (.t 45) (.t 46)) ::
om 4 47 :: [])) (.reg (
 om 48 5 ::
om 49 8 ::
om 50 8 ::
oo 51 (.neg (.t 50)) ::
oo 52 (.mnmx true (.t 49) (.t 51)) ::
oo 53 (.int .add (.t 48) (.t 52)) ::
om 5 53 :: [])))))))) (.reg (
 om 17 7 ::
oo 18 (.int .add (.t 17) z1) ::
om 7 18 :: []))))))) (.seq (.reg (
 om 54 4 ::
om 55 5 ::
om 2 54 ::
om 3 55 :: [])) .ret)))))
def r60 : List ResultVar := [.tmp 2, .tmp 3]
theorem fun60 : Fun Tryz.prog 60 56 1 a60 r60 :=
  ⟨rfl, Tryz.f60, _, rfl, rfl, rfl, by decide, rfl, rfl, rfl⟩
noncomputable def a62 : ACode := (.seq (.reg (
 oo 3 (.box (.t 0) 36) ::
oo 6 (.mv (.c (Value.bool false))) :: [])) (.seq (.reg (
 oo 7 (.faddr 0 (.t 3)) ::
oo 8 (.load1 (.t 7)) ::
om 9 1 ::
oo 10 (.int .geq (.t 8) (.t 9)) ::
om 11 10 ::
og 12 11 true (.faddr 0 (.t 3)) ::
og 13 11 true (.load1 (.t 12)) ::
og 14 11 true (.faddr 1 (.t 3)) ::
og 15 11 true (.load1 (.t 14)) ::
og 16 11 true (.int .leq (.t 13) (.t 15)) ::
oo 17 (.pick (.t 11) (.t 16) (.c (Value.bool false))) ::
om 18 17 ::
og 19 18 true (.faddr 1 (.t 3)) ::
og 20 18 true (.load1 (.t 19)) ::
og 21 18 true (.mv (.t 2)) ::
og 22 18 true (.int .leq (.t 20) (.t 21)) ::
oo 23 (.pick (.t 18) (.t 22) (.c (Value.bool false))) ::
om 6 23 :: [])) .ret))
def r62 : List ResultVar := [.tmp 6]
theorem fun62 : Fun Tryz.prog 62 24 3 a62 r62 :=
  ⟨rfl, Tryz.f62, _, rfl, rfl, rfl, by decide, rfl, rfl, rfl⟩
noncomputable def a65 : ACode := (.seq (.reg (
 oo 2 (.box (.t 0) 70) ::
oo 4 (.alloc [k0, k0, k0, k0, k0, k0, k0, k0, k0, k0, k0, k0, k0, k0, k0, k0] 115) ::
oo 5 (.mv z0) :: [])) (.seq (.reg (
 oo 9 (.loadn 16 (.t 2)) ::
oo 10 (.build [k0, k0, k0, k0, k0, k0, k0, k0, k0, k0, k0, k0, k0, k0, k0, k0] [(0, 16, (.t 9))]) ::
oo 6 (.alloc [k0, k0, k0, k0, k0, k0, k0, k0, k0, k0, k0, k0, k0, k0, k0, k0] 115) ::
oz (.store 16 (.t 6) (.t 10)) :: [])) (.seq (.seq (.reg (
 oo 11 (.loadn 16 (.t 2)) ::
oc 12 67 [(.t 11)] ::
om 7 12 :: [])) (.seq (.reg (
 om 13 7 ::
oo 14 (.int .neq (.t 13) z0) :: [])) (.cond (.t 14) (.seq (.reg (
 oo 15 (.loadn 16 (.t 6)) ::
om 16 7 ::
oz (.store 16 (.t 4) (.t 15)) ::
om 5 16 :: [])) .ret) .skip))) (.seq (.seq (.reg (
 om 17 1 ::
oc 18 126 [(.t 17)] ::
om 8 18 :: [])) (.seq (.reg (
 om 19 8 ::
oo 20 (.int .neq (.t 19) z0) :: [])) (.cond (.t 20) (.seq (.reg (
 oo 21 (.loadn 16 (.t 6)) ::
om 22 8 ::
oz (.store 16 (.t 4) (.t 21)) ::
om 5 22 :: [])) .ret) .skip))) (.seq (.seq (.reg (
 om 23 1 ::
oo 24 (.mkfn (Fn.func 128) [] [(.t 6)]) ::
oc 25 127 [(.t 23), (.t 24)] :: [])) (.cond (.t 25) (.seq (.reg (
 oo 26 (.loadn 16 (.t 6)) ::
oz (.store 16 (.t 4) (.t 26)) ::
oo 5 (.mv (.c (Value.int .i64 19))) :: [])) .ret) .skip)) (.seq (.reg (
 oo 27 (.loadn 16 (.t 6)) ::
oz (.store 16 (.t 4) (.t 27)) ::
oo 5 (.mv z0) :: [])) .ret))))))
def r65 : List ResultVar := [.cell 4 115, .tmp 5]
theorem fun65 : Fun Tryz.prog 65 28 2 a65 r65 :=
  ⟨rfl, Tryz.f65, _, rfl, rfl, rfl, by decide, rfl, rfl, rfl⟩
noncomputable def a66 : ACode := (.seq (.reg (
 oo 3 (.box (.t 0) 115) ::
oo 6 (.alloc [k0, k0, k0, k0, k0, k0, k0, k0] 119) :: [])) (.seq (.reg (
 oo 14 (.faddr 0 (.t 3)) ::
oo 15 (.faddr 4 (.t 14)) ::
oo 16 (.faddr 0 (.t 15)) ::
oo 17 (.load1 (.t 16)) ::
oo 18 (.faddr 0 (.t 3)) ::
oo 19 (.faddr 6 (.t 18)) ::
oo 20 (.faddr 1 (.t 19)) ::
oo 21 (.load1 (.t 20)) ::
oo 22 (.faddr 0 (.t 3)) ::
oo 23 (.faddr 8 (.t 22)) ::
oo 24 (.faddr 0 (.t 23)) ::
oo 25 (.load1 (.t 24)) ::
oo 26 (.faddr 0 (.t 3)) ::
oo 27 (.faddr 12 (.t 26)) ::
oo 28 (.faddr 1 (.t 27)) ::
oo 29 (.load1 (.t 28)) ::
oo 30 (.faddr 0 (.t 3)) ::
oo 31 (.faddr 14 (.t 30)) ::
oo 32 (.faddr 0 (.t 31)) ::
oo 33 (.load1 (.t 32)) ::
oo 34 (.build [k0, k0, k0, k0, k0, k0] [(0, 1, (.t 17)), (1, 1, (.t 21)), (2, 1, (.t 25)), (4, 1, (.t 29)), (5, 1, (.t 33))]) ::
oo 35 (.faddr 0 (.t 3)) ::
oo 36 (.faddr 4 (.t 35)) ::
oo 37 (.faddr 1 (.t 36)) ::
oo 38 (.load1 (.t 37)) ::
oo 39 (.faddr 0 (.t 3)) ::
oo 40 (.faddr 6 (.t 39)) ::
oo 41 (.faddr 0 (.t 40)) ::
oo 42 (.load1 (.t 41)) ::
oo 43 (.faddr 0 (.t 3)) ::
oo 44 (.faddr 8 (.t 43)) ::
oo 45 (.faddr 1 (.t 44)) ::
oo 46 (.load1 (.t 45)) ::
oo 47 (.faddr 0 (.t 3)) ::
oo 48 (.faddr 12 (.t 47)) ::
oo 49 (.faddr 0 (.t 48)) ::
oo 50 (.load1 (.t 49)) ::
oo 51 (.faddr 0 (.t 3)) ::
oo 52 (.faddr 14 (.t 51)) ::
oo 53 (.faddr 1 (.t 52)) ::
oo 54 (.load1 (.t 53)) ::
oo 55 (.build [k0, k0, k0, k0, k0, k0] [(0, 1, (.t 38)), (1, 1, (.t 42)), (2, 1, (.t 46)), (4, 1, (.t 50)), (5, 1, (.t 54))]) ::
oo 56 (.build [k0, k0, k0, k0, k0, k0, k0, k0, k0, k0, k0, k0] [(0, 6, (.t 34)), (6, 6, (.t 55))]) ::
oo 7 (.alloc [k0, k0, k0, k0, k0, k0, k0, k0, k0, k0, k0, k0] 198) ::
oz (.store 12 (.t 7) (.t 56)) :: [])) (.seq (.reg (
 om 57 2 ::
oo 58 (.int .add (.t 57) z1) ::
oo 59 (.idiv true (.t 58) (.c (Value.int .i64 2))) ::
oo 60 (.ixarr 2 6 (.t 7) (.t 59)) ::
oo 61 (.loadn 6 (.t 60)) ::
oo 8 (.alloc [k0, k0, k0, k0, k0, k0] 77) ::
oz (.store 6 (.t 8) (.t 61)) :: [])) (.seq (.reg (
 oo 62 (.build [k0, k0, k0, k0, k0, k0, k0, k0] [(0, 1, (.c (Value.int .i64 (-1))))]) ::
oo 9 (.alloc [k0, k0, k0, k0, k0, k0, k0, k0] 119) ::
oz (.store 8 (.t 9) (.t 62)) :: [])) (.seq (.reg (
 oo 63 (.loadn 8 (.t 9)) ::
oo 10 (.alloc [k0, k0, k0, k0, k0, k0, k0, k0] 119) ::
oz (.store 8 (.t 10) (.t 63)) :: [])) (.seq (.seq (.reg (
 om 64 1 ::
oo 65 (.len (.t 64)) ::
oo 66 (.mv z0) :: [])) (.block 0 (.loop (.seq (.reg (
 oo 67 (.int .lss (.t 66) (.t 65)) :: [])) (.seq (.cond (.t 67) .skip (.exit 0)) (.seq (.block 1 (.seq (.reg (
 om 68 66 ::
oo 69 (.ixsl 2 (.t 64) (.t 66)) ::
oo 70 (.loadn 2 (.t 69)) ::
oo 12 (.alloc [Value.slice none 0 0, Value.slice none 0 0] 59) ::
om 11 68 ::
oz (.store 2 (.t 12) (.t 70)) :: [])) (.seq (.reg (
 oo 71 (.faddr 0 (.t 3)) ::
oo 72 (.faddr 10 (.t 71)) ::
oo 73 (.faddr 0 (.t 72)) ::
oo 74 (.load1 (.t 73)) ::
oo 75 (.faddr 3 (.t 8)) ::
oz (.store 1 (.t 75) (.t 74)) :: [])) (.block 2 (.loop (.seq (.seq (.reg (
 oo 76 (.faddr 3 (.t 8)) ::
oo 77 (.load1 (.t 76)) ::
oo 78 (.faddr 0 (.t 3)) ::
oo 79 (.faddr 10 (.t 78)) ::
oo 80 (.faddr 1 (.t 79)) ::
oo 81 (.load1 (.t 80)) ::
oo 82 (.int .leq (.t 77) (.t 81)) :: [])) (.cond (.t 82) .skip (.exit 2))) (.seq (.block 3 (.seq (.reg (
 oo 87 (.loadn 16 (.t 3)) ::
oo 88 (.loadn 2 (.t 12)) ::
oo 89 (.build [Value.slice none 0 0, Value.slice none 0 0] [(0, 2, (.t 88))]) ::
oo 90 (.loadn 6 (.t 8)) ::
oc 91 73 [(.t 87), (.t 89), (.t 90)] ::
om 13 91 :: [])) (.seq (.reg (
 oo 92 (.loadn 8 (.t 10)) ::
oo 93 (.loadn 8 (.t 9)) ::
oo 94 (.pure (rawOp Tryz.f66 12 2)) ::
om 95 94 ::
og 96 95 false (.mv (.t 2)) ::
og 97 95 false (.mv (.t 13)) ::
og 98 95 false (.int .mul (.t 96) (.t 97)) ::
og 99 95 false (.mv (.t 2)) ::
og 100 95 false (.faddr 7 (.t 10)) ::
og 101 95 false (.load1 (.t 100)) ::
og 102 95 false (.int .mul (.t 99) (.t 101)) ::
og 103 95 false (.int .gtr (.t 98) (.t 102)) ::
oo 104 (.pick (.t 95) (.c (Value.bool true)) (.t 103)) :: [])) (.cond (.t 104) (.reg (
 om 105 11 ::
oo 106 (.loadn 6 (.t 8)) ::
om 107 13 ::
oo 108 (.build [k0, k0, k0, k0, k0, k0, k0, k0] [(0, 1, (.t 105)), (1, 6, (.t 106)), (7, 1, (.t 107))]) ::
oz (.store 8 (.t 10) (.t 108)) :: [])) .skip)))) (.reg (
 oo 83 (.faddr 3 (.t 8)) ::
oo 84 (.load1 (.t 83)) ::
oo 85 (.int .add (.t 84) z1) ::
oo 86 (.faddr 3 (.t 8)) ::
oz (.store 1 (.t 86) (.t 85)) :: []))))))))) (.reg (
 oo 109 (.int .add (.t 66) z1) ::
om 66 109 :: [])))))))) (.seq (.reg (
 oo 110 (.loadn 8 (.t 10)) ::
oz (.store 8 (.t 6) (.t 110)) :: [])) .ret)))))))
def r66 : List ResultVar := [.cell 6 119]
theorem fun66 : Fun Tryz.prog 66 111 3 a66 r66 :=
  ⟨rfl, Tryz.f66, _, rfl, rfl, rfl, by decide, rfl, rfl, rfl⟩
noncomputable def a67 : ACode := (.seq (.reg (
 oo 1 (.box (.t 0) 70) ::
oo 2 (.mv z0) :: [])) (.seq (.seq (.dreg (
 oo 3 (.faddr 0 (.t 1)) ::
oo 4 (.load1 (.t 3)) ::
oc 5 70 [(.t 4), z1, (.c (Value.int .i64 10000))] ::
oo 6 (.faddr 1 (.t 1)) ::
oo 7 (.load1 (.t 6)) ::
oc 8 70 [(.t 7), z1, (.c (Value.int .i64 10000))] ::
oo 9 (.faddr 2 (.t 1)) ::
oo 10 (.load1 (.t 9)) ::
oc 11 70 [(.t 10), z1, (.c (Value.int .i64 1000000))] ::
oo 12 (.faddr 3 (.t 1)) ::
oo 13 (.load1 (.t 12)) ::
oc 14 70 [(.t 13), z1, (.c (Value.int .i64 10))] ::
oo 15 (.faddr 4 (.t 1)) ::
oo 16 (.loadn 2 (.t 15)) ::
oo 17 (.build [k0, k0, k0, k0] [(0, 2, (.t 16)), (2, 1, z0), (3, 1, (.c (Value.int .i64 100000000)))]) ::
oo 18 (.faddr 6 (.t 1)) ::
oo 19 (.loadn 2 (.t 18)) ::
oo 20 (.build [k0, k0, k0, k0] [(0, 2, (.t 19)), (2, 1, (.c (Value.int .i64 500))), (3, 1, (.c (Value.int .i64 3000)))]) ::
oo 21 (.faddr 8 (.t 1)) ::
oo 22 (.loadn 2 (.t 21)) ::
oo 23 (.build [k0, k0, k0, k0] [(0, 2, (.t 22)), (2, 1, (.c (Value.int .i64 500))), (3, 1, (.c (Value.int .i64 3000)))]) ::
oo 24 (.faddr 10 (.t 1)) ::
oo 25 (.loadn 2 (.t 24)) ::
oo 26 (.build [k0, k0, k0, k0] [(0, 2, (.t 25)), (2, 1, z0), (3, 1, (.c (Value.int .i64 1000)))]) ::
oo 27 (.faddr 12 (.t 1)) ::
oo 28 (.loadn 2 (.t 27)) ::
oo 29 (.build [k0, k0, k0, k0] [(0, 2, (.t 28)), (2, 1, z0), (3, 1, (.c (Value.int .i64 200)))]) ::
oo 30 (.faddr 14 (.t 1)) ::
oo 31 (.loadn 2 (.t 30)) ::
oo 32 (.build [k0, k0, k0, k0] [(0, 2, (.t 31)), (2, 1, z0), (3, 1, (.c (Value.int .i64 2000)))]) ::
oo 33 (.bslice [k0, k0, k0, k0, k0, k0, k0, k0, k0, k0, k0, k0, k0, k0, k0, k0, k0, k0, k0, k0, k0, k0, k0, k0, k0, k0, k0, k0, k0, k0, k0, k0, k0, k0, k0, k0, k0, k0, k0, k0] [(0, 4, (.t 5)), (4, 4, (.t 8)), (8, 4, (.t 11)), (12, 4, (.t 14)), (16, 4, (.t 17)), (20, 4, (.t 20)), (24, 4, (.t 23)), (28, 4, (.t 26)), (32, 4, (.t 29)), (36, 4, (.t 32))] 10 126) ::
oc 34 69 [(.t 33)] ::
oc 35 68 [(.t 34)] ::
oo 36 (.not (.t 35)) :: []) []) (.cond (.t 36) (.seq (.reg (
 oo 2 (.mv (.c (Value.int .i64 2))) :: [])) .ret) .skip)) (.seq (.reg (
 oo 2 (.mv z0) :: [])) .ret)))
def r67 : List ResultVar := [.tmp 2]
theorem fun67 : Fun Tryz.prog 67 37 1 a67 r67 :=
  ⟨rfl, Tryz.f67, _, rfl, rfl, rfl, by decide, rfl, rfl, rfl⟩
noncomputable def a68A0 : ACode := (.reg (
 oo 3 (.alloc [k0, k0, k0, k0] 126) ::
oz (.store 4 (.t 3) (.t 5)) :: []))
noncomputable def a68B0 : ACode := (.block 1 (.seq (.reg (
 oo 6 (.faddr 0 (.t 3)) ::
oo 7 (.faddr 0 (.t 6)) ::
oo 8 (.load1 (.t 7)) ::
oo 9 (.faddr 2 (.t 3)) ::
oo 10 (.load1 (.t 9)) ::
oo 11 (.int .lss (.t 8) (.t 10)) ::
om 12 11 ::
og 13 12 false (.faddr 0 (.t 3)) ::
og 14 12 false (.faddr 0 (.t 13)) ::
og 15 12 false (.load1 (.t 14)) ::
og 16 12 false (.faddr 0 (.t 3)) ::
og 17 12 false (.faddr 1 (.t 16)) ::
og 18 12 false (.load1 (.t 17)) ::
og 19 12 false (.int .gtr (.t 15) (.t 18)) ::
oo 20 (.pick (.t 12) (.c (Value.bool true)) (.t 19)) ::
om 21 20 ::
og 22 21 false (.faddr 0 (.t 3)) ::
og 23 21 false (.faddr 1 (.t 22)) ::
og 24 21 false (.load1 (.t 23)) ::
og 25 21 false (.faddr 3 (.t 3)) ::
og 26 21 false (.load1 (.t 25)) ::
og 27 21 false (.int .gtr (.t 24) (.t 26)) ::
oo 28 (.pick (.t 21) (.c (Value.bool true)) (.t 27)) :: [])) (.cond (.t 28) (.seq (.reg (
 oz (.store 1 (.t 2) (.c (Value.bool false))) :: [])) .ret) .skip)))
theorem c68A0 : cCode Tryz.prog 29 false (rfAt Tryz.f68 0).1 = some a68A0 := rfl
theorem c68B0 : cCode Tryz.prog 29 false (rfAt Tryz.f68 0).2 = some a68B0 := rfl
noncomputable def a68 : ACode := (.seq (.reg (
 oo 2 (.alloc [Value.bool false] 4) :: [])) (.seq (.seq (.reg (
 om 4 0 :: [])) (.block 0 (.range (.t 4) [5] 29 (rfAt Tryz.f68 0).1 (rfAt Tryz.f68 0).2 a68A0 a68B0))) (.seq (.reg (
 oz (.store 1 (.t 2) (.c (Value.bool true))) :: [])) .ret)))
def r68 : List ResultVar := [.cell 2 4]
theorem fun68 : Fun Tryz.prog 68 29 1 a68 r68 :=
  ⟨rfl, Tryz.f68, _, rfl, rfl, rfl, by decide, rfl, rfl, rfl⟩
noncomputable def a69 : ACode := (.seq (.reg (
 oo 2 (.mv (.c (Value.nilFunc))) :: [])) (.seq (.reg (
 om 3 0 ::
oc 4 130 [(.t 3)] ::
om 2 4 :: [])) .ret))
def r69 : List ResultVar := [.tmp 2]
theorem fun69 : Fun Tryz.prog 69 5 1 a69 r69 :=
  ⟨rfl, Tryz.f69, _, rfl, rfl, rfl, by decide, rfl, rfl, rfl⟩
noncomputable def a70 : ACode := (.seq (.reg (
 oo 6 (.alloc [k0, k0, k0, k0] 126) :: [])) (.seq (.reg (
 om 7 0 ::
om 8 0 ::
oo 9 (.build [k0, k0] [(0, 1, (.t 7)), (1, 1, (.t 8))]) ::
om 10 1 ::
om 11 2 ::
oo 12 (.build [k0, k0, k0, k0] [(0, 2, (.t 9)), (2, 1, (.t 10)), (3, 1, (.t 11))]) ::
oz (.store 4 (.t 6) (.t 12)) :: [])) .ret))
def r70 : List ResultVar := [.cell 6 126]
theorem fun70 : Fun Tryz.prog 70 13 3 a70 r70 :=
  ⟨rfl, Tryz.f70, _, rfl, rfl, rfl, by decide, rfl, rfl, rfl⟩
noncomputable def a71 : ACode := (.seq (.reg (
 oo 2 (.box (.t 0) 115) ::
oo 4 (.mv z0) :: [])) (.seq (.reg (
 oo 5 (.faddr 0 (.t 2)) ::
oo 6 (.faddr 0 (.t 5)) ::
oo 7 (.load1 (.t 6)) ::
oo 8 (.faddr 0 (.t 2)) ::
oo 9 (.faddr 1 (.t 8)) ::
oo 10 (.load1 (.t 9)) ::
oo 11 (.int .mul (.t 7) (.t 10)) ::
om 12 1 ::
oo 13 (.idiv true (.t 11) (.t 12)) ::
om 4 13 :: [])) .ret))
def r71 : List ResultVar := [.tmp 4]
theorem fun71 : Fun Tryz.prog 71 14 2 a71 r71 :=
  ⟨rfl, Tryz.f71, _, rfl, rfl, rfl, by decide, rfl, rfl, rfl⟩
noncomputable def a72 : ACode := (.seq (.reg (
 oo 2 (.box (.t 0) 115) ::
oo 4 (.mv z0) :: [])) (.seq (.reg (
 oo 5 (.faddr 0 (.t 2)) ::
oo 6 (.faddr 0 (.t 5)) ::
oo 7 (.load1 (.t 6)) ::
oo 8 (.faddr 0 (.t 2)) ::
oo 9 (.faddr 1 (.t 8)) ::
oo 10 (.load1 (.t 9)) ::
oo 11 (.int .mul (.t 7) (.t 10)) ::
oo 12 (.faddr 0 (.t 2)) ::
oo 13 (.faddr 3 (.t 12)) ::
oo 14 (.load1 (.t 13)) ::
oo 15 (.int .mul (.t 11) (.t 14)) ::
oo 16 (.faddr 0 (.t 2)) ::
oo 17 (.faddr 3 (.t 16)) ::
oo 18 (.load1 (.t 17)) ::
oo 19 (.int .mul (.t 15) (.t 18)) ::
oo 20 (.faddr 0 (.t 2)) ::
oo 21 (.faddr 3 (.t 20)) ::
oo 22 (.load1 (.t 21)) ::
oo 23 (.int .mul (.t 19) (.t 22)) ::
om 24 1 ::
oo 25 (.idiv true (.t 23) (.t 24)) ::
om 4 25 :: [])) .ret))
def r72 : List ResultVar := [.tmp 4]
theorem fun72 : Fun Tryz.prog 72 26 2 a72 r72 :=
  ⟨rfl, Tryz.f72, _, rfl, rfl, rfl, by decide, rfl, rfl, rfl⟩
noncomputable def a73 : ACode := (.seq (.reg (
 oo 3 (.box (.t 0) 115) ::
oo 4 (.box (.t 1) 106) ::
oo 5 (.box (.t 2) 77) ::
oo 6 (.mv z0) :: [])) (.seq (.dreg (
 oo 10 (.faddr 0 (.t 5)) ::
oo 11 (.load1 (.t 10)) ::
oo 12 (.int .mul (.c (Value.int .i64 20000000000)) (.t 11)) ::
oo 13 (.faddr 0 (.t 3)) ::
oo 14 (.faddr 2 (.t 13)) ::
oo 15 (.load1 (.t 14)) ::
oo 16 (.faddr 0 (.t 3)) ::
oo 17 (.faddr 0 (.t 16)) ::
oo 18 (.load1 (.t 17)) ::
oo 19 (.int .mul (.t 15) (.t 18)) ::
oo 20 (.faddr 0 (.t 3)) ::
oo 21 (.faddr 0 (.t 20)) ::
oo 22 (.load1 (.t 21)) ::
oo 23 (.int .mul (.t 19) (.t 22)) ::
oo 24 (.idiv true (.t 12) (.t 23)) ::
oo 25 (.mnmx false (.c (Value.int .i64 1000000000)) (.t 24)) ::
oo 26 (.faddr 4 (.t 5)) ::
oo 27 (.load1 (.t 26)) ::
oo 28 (.int .sub (.c (Value.int .i64 1000)) (.t 27)) ::
oo 29 (.int .mul (.t 25) (.t 28)) ::
oo 30 (.idiv true (.t 29) (.c (Value.int .i64 1000))) ::
om 7 30 :: []) []) (.seq (.reg (
 oo 31 (.loadn 2 (.t 4)) ::
oo 32 (.mkfn (Fn.func 58) [(.t 31)] []) ::
oo 8 (.alloc [Value.nilFunc] 108) ::
oz (.store 1 (.t 8) (.t 32)) :: [])) (.seq (.reg (
 oo 33 (.mkfn (Fn.func 131) [] [(.t 5), (.t 8)]) ::
om 9 33 :: [])) (.seq (.dreg (
 om 34 7 ::
om 35 9 ::
oo 36 (.loadn 16 (.t 3)) ::
oo 37 (.faddr 1 (.t 5)) ::
oo 38 (.load1 (.t 37)) ::
oc 39 71 [(.t 36), (.t 38)] ::
⟨(some 40), none, (.call (.t 35) [(.t 39)])⟩ ::
oo 41 (.int .sub (.t 34) (.t 40)) ::
om 42 9 ::
oo 43 (.loadn 16 (.t 3)) ::
oo 44 (.faddr 2 (.t 5)) ::
oo 45 (.load1 (.t 44)) ::
oc 46 72 [(.t 43), (.t 45)] ::
⟨(some 47), none, (.call (.t 42) [(.t 46)])⟩ ::
oo 48 (.int .add (.t 41) (.t 47)) ::
oo 49 (.faddr 5 (.t 5)) ::
oo 50 (.load1 (.t 49)) ::
oo 51 (.int .add (.t 48) (.t 50)) ::
om 6 51 :: []) []) .ret)))))
def r73 : List ResultVar := [.tmp 6]
theorem fun73 : Fun Tryz.prog 73 52 3 a73 r73 :=
  ⟨rfl, Tryz.f73, _, rfl, rfl, rfl, by decide, rfl, rfl, rfl⟩
noncomputable def a75 : ACode := (.seq (.reg (
 oo 1 (.box (.t 0) 115) ::
oo 2 (.alloc [k0, k0, k0, k0] 130) :: [])) (.seq (.dreg (
 oo 3 (.loadn 16 (.t 1)) ::
oo 4 (.faddr 0 (.t 1)) ::
oo 5 (.faddr 6 (.t 4)) ::
oo 6 (.faddr 1 (.t 5)) ::
oo 7 (.load1 (.t 6)) ::
oc 8 71 [(.t 3), (.t 7)] ::
oo 9 (.loadn 16 (.t 1)) ::
oo 10 (.faddr 0 (.t 1)) ::
oo 11 (.faddr 6 (.t 10)) ::
oo 12 (.faddr 0 (.t 11)) ::
oo 13 (.load1 (.t 12)) ::
oc 14 71 [(.t 9), (.t 13)] ::
oo 15 (.build [k0, k0] [(0, 1, (.t 8)), (1, 1, (.t 14))]) ::
oo 16 (.loadn 16 (.t 1)) ::
oo 17 (.faddr 0 (.t 1)) ::
oo 18 (.faddr 8 (.t 17)) ::
oo 19 (.faddr 1 (.t 18)) ::
oo 20 (.load1 (.t 19)) ::
oc 21 72 [(.t 16), (.t 20)] ::
oo 22 (.loadn 16 (.t 1)) ::
oo 23 (.faddr 0 (.t 1)) ::
oo 24 (.faddr 8 (.t 23)) ::
oo 25 (.faddr 0 (.t 24)) ::
oo 26 (.load1 (.t 25)) ::
oc 27 72 [(.t 22), (.t 26)] ::
oo 28 (.build [k0, k0] [(0, 1, (.t 21)), (1, 1, (.t 27))]) ::
oo 29 (.build [k0, k0, k0, k0] [(0, 2, (.t 15)), (2, 2, (.t 28))]) ::
oz (.store 4 (.t 2) (.t 29)) :: []) []) .ret))
def r75 : List ResultVar := [.cell 2 130]
theorem fun75 : Fun Tryz.prog 75 30 1 a75 r75 :=
  ⟨rfl, Tryz.f75, _, rfl, rfl, rfl, by decide, rfl, rfl, rfl⟩
noncomputable def a76 : ACode := (.seq (.reg (
 oo 0 (.alloc [Value.slice none 0 0, k0] 34) :: [])) (.seq (.reg (
 oo 1 (.build [k0, k0] []) ::
oo 2 (.build [k0, k0] [(0, 1, (.c (Value.int .i64 2))), (1, 1, (.c (Value.int .i64 3)))]) ::
oo 3 (.build [k0, k0] [(0, 1, (.c (Value.int .i64 4))), (1, 1, (.c (Value.int .i64 4)))]) ::
oo 4 (.build [k0, k0] [(0, 1, (.c (Value.int .i64 5))), (1, 1, (.c (Value.int .i64 7)))]) ::
oo 5 (.build [k0, k0] [(0, 1, (.c (Value.int .i64 10))), (1, 1, (.c (Value.int .i64 10)))]) ::
oo 6 (.bslice [k0, k0, k0, k0, k0, k0, k0, k0, k0, k0] [(0, 2, (.t 1)), (2, 2, (.t 2)), (4, 2, (.t 3)), (6, 2, (.t 4)), (8, 2, (.t 5))] 5 36) ::
oo 7 (.build [Value.slice none 0 0, k0] [(0, 1, (.t 6)), (1, 1, (.c (Value.int .i64 100)))]) ::
oz (.store 2 (.t 0) (.t 7)) :: [])) .ret))
def r76 : List ResultVar := [.cell 0 34]
theorem fun76 : Fun Tryz.prog 76 8 0 a76 r76 :=
  ⟨rfl, Tryz.f76, _, rfl, rfl, rfl, by decide, rfl, rfl, rfl⟩
noncomputable def a77 : ACode := (.seq (.reg (
 oo 2 (.box (.t 0) 34) ::
oo 4 (.mv (.c (Value.slice none 0 0))) ::
oo 5 (.mv z0) :: [])) (.seq (.seq (.reg (
 oo 17 (.loadn 2 (.t 2)) ::
oc 18 38 [(.t 17)] ::
om 6 18 :: [])) (.seq (.reg (
 om 19 6 ::
oo 20 (.int .neq (.t 19) z0) :: [])) (.cond (.t 20) (.seq (.reg (
 om 21 6 ::
oo 4 (.mv (.c (Value.slice none 0 0))) ::
om 5 21 :: [])) .ret) .skip))) (.seq (.seq (.reg (
 om 22 1 ::
oo 23 (.int .lss (.t 22) z0) :: [])) (.cond (.t 23) (.seq (.reg (
 oo 4 (.mv (.c (Value.slice none 0 0))) ::
oo 5 (.mv (.c (Value.int .i64 3))) :: [])) .ret) .skip)) (.seq (.reg (
 oo 7 (.mv (.c (Value.slice none 0 0))) :: [])) (.seq (.reg (
 oo 8 (.alloc [Value.bool false, Value.bool false, Value.bool false, Value.bool false, Value.bool false] 201) :: [])) (.seq .skip (.seq (.seq (.reg (
 oo 24 (.faddr 0 (.t 2)) ::
oo 25 (.load1 (.t 24)) ::
oo 26 (.len (.t 25)) ::
oo 27 (.mv z0) :: [])) (.block 0 (.loop (.seq (.reg (
 oo 28 (.int .lss (.t 27) (.t 26)) :: [])) (.seq (.cond (.t 28) .skip (.exit 0)) (.seq (.block 1 (.seq (.reg (
 om 29 27 ::
oo 30 (.ixsl 2 (.t 25) (.t 27)) ::
oo 31 (.loadn 2 (.t 30)) ::
oo 10 (.alloc [k0, k0] 36) ::
om 9 29 ::
oz (.store 2 (.t 10) (.t 31)) :: [])) (.seq (.reg (
 oo 32 (.slarr 5 1 (.t 8) none none none) ::
oz (.clr [Value.bool false] (.t 32)) :: [])) (.seq (.reg (
 oo 11 (.mv (.c (Value.int .i64 (-1)))) ::
oo 12 (.mv (.c (Value.int .i64 (-1)))) :: [])) (.seq (.seq (.reg (
 oo 33 (.faddr 1 (.t 10)) ::
oo 34 (.load1 (.t 33)) ::
oo 35 (.faddr 0 (.t 10)) ::
oo 36 (.load1 (.t 35)) ::
oo 37 (.int .sub (.t 34) (.t 36)) ::
oo 38 (.int .add (.t 37) z1) ::
oo 39 (.mv z0) :: [])) (.block 2 (.loop (.seq (.reg (
 oo 40 (.int .lss (.t 39) (.t 38)) :: [])) (.seq (.cond (.t 40) .skip (.exit 2)) (.seq (.block 3 (.seq (.reg (
 om 41 39 ::
om 13 41 :: [])) (.seq (.reg (
 oo 42 (.faddr 0 (.t 2)) ::
oo 43 (.load1 (.t 42)) ::
oo 44 (.len (.t 43)) ::
oo 45 (.mkslice [k0, k0] 16 36 (.t 44) (.t 44)) ::
oo 46 (.build [Value.slice none 0 0, k0] [(0, 1, (.t 45))]) ::
oo 14 (.alloc [Value.slice none 0 0, k0] 34) ::
oz (.store 2 (.t 14) (.t 46)) :: [])) (.seq (.dreg (
 oo 47 (.faddr 0 (.t 14)) ::
oo 48 (.load1 (.t 47)) ::
oo 49 (.faddr 0 (.t 2)) ::
oo 50 (.load1 (.t 49)) ::
oo 51 (.faddr 0 (.t 2)) ::
oo 52 (.load1 (.t 51)) ::
oo 53 (.len (.t 52)) ::
oo 54 (.faddr 0 (.t 2)) ::
oo 55 (.load1 (.t 54)) ::
oo 56 (.len (.t 55)) ::
oo 57 (.slsl 2 (.t 50) none (some (.t 53)) (some (.t 56))) ::
oo 58 (.copy 2 (.t 48) (.t 57)) :: []) []) (.seq (.reg (
 oo 59 (.faddr 0 (.t 14)) ::
oo 60 (.load1 (.t 59)) ::
om 61 9 ::
oo 62 (.faddr 0 (.t 10)) ::
oo 63 (.load1 (.t 62)) ::
om 64 13 ::
oo 65 (.int .add (.t 63) (.t 64)) ::
oo 66 (.faddr 0 (.t 10)) ::
oo 67 (.load1 (.t 66)) ::
om 68 13 ::
oo 69 (.int .add (.t 67) (.t 68)) ::
oo 70 (.build [k0, k0] [(0, 1, (.t 65)), (1, 1, (.t 69))]) ::
oo 71 (.ixsl 2 (.t 60) (.t 61)) ::
oz (.store 2 (.t 71) (.t 70)) :: [])) (.seq (.reg (
 oo 73 (.loadn 2 (.t 14)) ::
oc 74 39 [(.t 73), z0, z1] ::
oc 75 40 [(.t 74)] ::
om 72 75 ::
oo 76 (.extract (.t 72) 0) ::
oo 77 (.extract (.t 72) 1) ::
om 15 76 ::
om 16 77 :: [])) (.seq (.reg (
 om 78 13 ::
om 79 16 ::
om 80 1 ::
oo 81 (.int .leq (.t 79) (.t 80)) ::
oo 82 (.ixarr 5 1 (.t 8) (.t 78)) ::
oz (.store 1 (.t 82) (.t 81)) :: [])) (.seq (.seq (.reg (
 om 83 13 ::
oo 84 (.ixarr 5 1 (.t 8) (.t 83)) ::
oo 85 (.load1 (.t 84)) ::
om 86 85 ::
og 87 86 true (.mv (.t 11)) ::
og 88 86 true (.int .lss (.t 87) z0) ::
oo 89 (.pick (.t 86) (.t 88) (.c (Value.bool false))) :: [])) (.cond (.t 89) (.reg (
 om 90 13 ::
om 11 90 :: [])) .skip)) (.seq (.reg (
 om 91 13 ::
oo 92 (.ixarr 5 1 (.t 8) (.t 91)) ::
oo 93 (.load1 (.t 92)) :: [])) (.cond (.t 93) (.reg (
 om 94 13 ::
om 12 94 :: [])) .skip)))))))))) (.reg (
 oo 95 (.int .add (.t 39) z1) ::
om 39 95 :: [])))))))) (.seq (.seq (.reg (
 om 96 11 ::
oo 97 (.int .lss (.t 96) z0) :: [])) (.cond (.t 97) (.seq (.reg (
 oo 7 (.mv (.c (Value.slice none 0 0))) :: [])) (.exit 0)) .skip)) (.reg (
 om 98 7 ::
oo 99 (.faddr 0 (.t 10)) ::
oo 100 (.load1 (.t 99)) ::
om 101 11 ::
oo 102 (.int .add (.t 100) (.t 101)) ::
oo 103 (.faddr 0 (.t 10)) ::
oo 104 (.load1 (.t 103)) ::
om 105 12 ::
oo 106 (.int .add (.t 104) (.t 105)) ::
oo 107 (.build [k0, k0] [(0, 1, (.t 102)), (1, 1, (.t 106))]) ::
oo 108 (.bslice [k0, k0] [(0, 2, (.t 107))] 1 36) ::
oo 109 (.append 36 2 16 (.t 98) (.t 108)) ::
om 7 109 :: [])))))))) (.reg (
 oo 110 (.int .add (.t 27) z1) ::
om 27 110 :: [])))))))) (.seq (.seq (.reg (
 om 111 7 ::
oo 112 (.cmp (some true) false (.t 111) (.c (Value.slice none 0 0)) (rawOp Tryz.f77 30 1)) :: [])) (.cond (.t 112) (.seq (.reg (
 oo 4 (.mv (.c (Value.slice none 0 0))) ::
oo 5 (.mv (.c (Value.int .i64 17))) :: [])) .ret) .skip)) (.seq (.reg (
 om 113 7 ::
om 4 113 ::
oo 5 (.mv z0) :: [])) .ret)))))))))
def r77 : List ResultVar := [.tmp 4, .tmp 5]
theorem fun77 : Fun Tryz.prog 77 114 2 a77 r77 :=
  ⟨rfl, Tryz.f77, _, rfl, rfl, rfl, by decide, rfl, rfl, rfl⟩
noncomputable def a78 : ACode := (.seq (.reg (
 oo 1 (.box (.t 0) 34) ::
oo 2 (.mv (.c (Value.slice none 0 0))) ::
oo 3 (.mv z0) :: [])) (.seq (.seq (.reg (
 oo 16 (.loadn 2 (.t 1)) ::
oc 17 38 [(.t 16)] ::
om 4 17 :: [])) (.seq (.reg (
 om 18 4 ::
oo 19 (.int .neq (.t 18) z0) :: [])) (.cond (.t 19) (.seq (.reg (
 om 20 4 ::
oo 2 (.mv (.c (Value.slice none 0 0))) ::
om 3 20 :: [])) .ret) .skip))) (.seq (.reg (
 oo 21 (.loadn 2 (.t 1)) ::
oo 22 (.faddr 1 (.t 1)) ::
oo 23 (.load1 (.t 22)) ::
oc 24 39 [(.t 21), z1, (.t 23)] ::
om 5 24 :: [])) (.seq (.reg (
 oo 25 (.mkmap) ::
oo 6 (.alloc [Value.map none] 203) ::
oz (.store 1 (.t 6) (.t 25)) :: [])) (.seq (.seq (.reg (
 om 26 5 ::
oc 27 132 [(.t 26)] ::
oo 28 (.len (.t 27)) ::
oo 29 (.mv z0) :: [])) (.block 0 (.loop (.seq (.reg (
 oo 30 (.int .lss (.t 29) (.t 28)) :: [])) (.seq (.cond (.t 30) .skip (.exit 0)) (.seq (.block 1 (.seq (.reg (
 oo 31 (.ixsl 4 (.t 27) (.t 29)) ::
oo 32 (.loadn 4 (.t 31)) ::
oo 8 (.alloc [k0, k0, k0, k0] 165) ::
oz (.store 4 (.t 8) (.t 32)) :: [])) (.seq (.seq (.reg (
 oo 33 (.faddr 0 (.t 8)) ::
oo 34 (.load1 (.t 33)) ::
oo 35 (.int .eql (.t 34) z1) ::
om 36 35 ::
og 37 36 true (.faddr 3 (.t 8)) ::
og 38 36 true (.loadn 1 (.t 37)) ::
og 39 36 true (.build [k0] []) ::
og 40 36 true (.pure (rawOp Tryz.f78 9 7)) ::
oo 41 (.pick (.t 36) (.t 40) (.c (Value.bool false))) :: [])) (.cond (.t 41) (.reg (
 oo 42 (.load1 (.t 6)) ::
oo 43 (.loadn 4 (.t 8)) ::
oz (.mapup 165 (.t 42) (.t 43) z0) :: [])) .skip)) (.seq (.reg (
 oo 45 (.load1 (.t 6)) ::
oo 46 (.loadn 4 (.t 8)) ::
oo 47 (.lookup 165 (k0) true (.t 45) (.t 46)) ::
om 44 47 ::
oo 48 (.extract (.t 44) 0) ::
oo 49 (.extract (.t 44) 1) ::
oo 9 (.alloc [k0] 2) ::
oz (.store 1 (.t 9) (.t 48)) ::
om 10 49 :: [])) (.seq (.seq (.reg (
 om 50 10 ::
oo 51 (.not (.t 50)) :: [])) (.cond (.t 51) (.exit 1) .skip)) (.reg (
 om 52 5 ::
oo 53 (.loadn 4 (.t 8)) ::
oo 54 (.mkfn (Fn.func 134) [] [(.t 6), (.t 9)]) ::
oc 55 133 [(.t 52), (.t 53), (.t 54)] :: []))))))) (.reg (
 oo 56 (.int .add (.t 29) z1) ::
om 29 56 :: [])))))))) (.seq (.reg (
 oo 11 (.mv (.c (Value.slice none 0 0))) :: [])) (.seq (.seq (.reg (
 om 57 5 ::
oc 58 132 [(.t 57)] ::
oo 59 (.len (.t 58)) ::
oo 60 (.mv z0) :: [])) (.block 2 (.loop (.seq (.reg (
 oo 61 (.int .lss (.t 60) (.t 59)) :: [])) (.seq (.cond (.t 61) .skip (.exit 2)) (.seq (.block 3 (.seq (.reg (
 oo 62 (.ixsl 4 (.t 58) (.t 60)) ::
oo 63 (.loadn 4 (.t 62)) ::
oo 13 (.alloc [k0, k0, k0, k0] 165) ::
oz (.store 4 (.t 13) (.t 63)) :: [])) (.seq (.reg (
 oo 65 (.load1 (.t 6)) ::
oo 66 (.loadn 4 (.t 13)) ::
oo 67 (.lookup 165 (k0) true (.t 65) (.t 66)) ::
om 64 67 ::
oo 68 (.extract (.t 64) 0) ::
oo 69 (.extract (.t 64) 1) ::
om 14 68 ::
om 15 69 :: [])) (.seq (.seq (.reg (
 om 70 15 ::
oo 71 (.not (.t 70)) :: [])) (.cond (.t 71) (.reg (
 oo 14 (.mv (.c (Value.int .i64 1099511627776))) :: [])) .skip)) (.reg (
 om 72 11 ::
om 73 14 ::
oo 74 (.bslice [k0] [(0, 1, (.t 73))] 1 2) ::
oo 75 (.append 2 1 8 (.t 72) (.t 74)) ::
om 11 75 :: [])))))) (.reg (
 oo 76 (.int .add (.t 60) z1) ::
om 60 76 :: [])))))))) (.seq (.reg (
 om 77 11 ::
om 2 77 ::
oo 3 (.mv z0) :: [])) .ret))))))))
def r78 : List ResultVar := [.tmp 2, .tmp 3]
theorem fun78 : Fun Tryz.prog 78 78 1 a78 r78 :=
  ⟨rfl, Tryz.f78, _, rfl, rfl, rfl, by decide, rfl, rfl, rfl⟩
noncomputable def a79 : ACode := (.seq (.reg (
 oo 2 (.box (.t 0) 34) ::
oo 4 (.mv z0) ::
oo 5 (.mv z0) :: [])) (.seq (.seq (.reg (
 oo 18 (.loadn 2 (.t 2)) ::
oc 19 38 [(.t 18)] ::
om 6 19 :: [])) (.seq (.reg (
 om 20 6 ::
oo 21 (.int .neq (.t 20) z0) :: [])) (.cond (.t 21) (.seq (.reg (
 om 22 6 ::
oo 4 (.mv z0) ::
om 5 22 :: [])) .ret) .skip))) (.seq (.reg (
 oo 23 (.loadn 2 (.t 2)) ::
oo 24 (.faddr 1 (.t 2)) ::
oo 25 (.load1 (.t 24)) ::
oc 26 39 [(.t 23), z1, (.t 25)] ::
om 7 26 :: [])) (.seq (.reg (
 om 27 7 ::
oc 28 132 [(.t 27)] ::
om 8 28 :: [])) (.seq (.block 0 (.seq (.reg (
 om 30 1 ::
oo 31 (.len (.t 30)) ::
om 32 8 ::
oo 33 (.len (.t 32)) ::
oo 34 (.int .neq (.t 31) (.t 33)) ::
om 29 34 :: [])) (.cond (.t 29) (.seq (.reg (
 oo 4 (.mv z0) ::
oo 5 (.mv (.c (Value.int .i64 15))) :: [])) .ret) (.seq (.reg (
 om 36 1 ::
oc 37 59 [z0, (.c (Value.int .i64 1099511627776)), (.t 36)] ::
oo 38 (.not (.t 37)) ::
om 35 38 :: [])) (.cond (.t 35) (.seq (.reg (
 oo 4 (.mv z0) ::
oo 5 (.mv (.c (Value.int .i64 3))) :: [])) .ret) (.seq (.reg (
 om 40 8 ::
oo 41 (.len (.t 40)) ::
oo 42 (.int .eql (.t 41) z0) ::
om 39 42 :: [])) (.cond (.t 39) (.seq (.reg (
 oo 4 (.mv z0) ::
oo 5 (.mv z0) :: [])) .ret) .skip))))))) (.seq (.reg (
 oo 43 (.mkmap) ::
oo 9 (.alloc [Value.map none] 203) ::
oz (.store 1 (.t 9) (.t 43)) :: [])) (.seq (.seq (.reg (
 om 44 8 ::
oo 45 (.len (.t 44)) ::
oo 46 (.mv z0) :: [])) (.block 1 (.loop (.seq (.reg (
 oo 47 (.int .lss (.t 46) (.t 45)) :: [])) (.seq (.cond (.t 47) .skip (.exit 1)) (.seq (.block 2 (.seq (.reg (
 om 48 46 ::
oo 49 (.ixsl 4 (.t 44) (.t 46)) ::
oo 50 (.loadn 4 (.t 49)) ::
oo 11 (.alloc [k0, k0, k0, k0] 165) ::
om 10 48 ::
oz (.store 4 (.t 11) (.t 50)) :: [])) (.dreg (
 oo 51 (.load1 (.t 9)) ::
oo 52 (.loadn 4 (.t 11)) ::
om 53 1 ::
om 54 10 ::
oo 55 (.ixsl 1 (.t 53) (.t 54)) ::
oo 56 (.load1 (.t 55)) ::
oz (.mapup 165 (.t 51) (.t 52) (.t 56)) :: []) []))) (.reg (
 oo 57 (.int .add (.t 46) z1) ::
om 46 57 :: [])))))))) (.seq (.reg (
 oo 12 (.alloc [Value.bool false] 4) ::
oz (.store 1 (.t 12) (.c (Value.bool true))) :: [])) (.seq (.reg (
 oo 13 (.mv (.c (Value.int .i64 1099511627776))) :: [])) (.seq (.reg (
 oo 14 (.alloc [k0, k0, k0] 209) ::
oo 15 (.alloc [k0, k0, k0] 209) :: [])) (.seq (.seq (.reg (
 om 58 8 ::
oo 59 (.len (.t 58)) ::
oo 60 (.mv z0) :: [])) (.block 3 (.loop (.seq (.reg (
 oo 61 (.int .lss (.t 60) (.t 59)) :: [])) (.seq (.cond (.t 61) .skip (.exit 3)) (.seq (.block 4 (.seq (.reg (
 oo 62 (.ixsl 4 (.t 58) (.t 60)) ::
oo 63 (.loadn 4 (.t 62)) ::
oo 17 (.alloc [k0, k0, k0, k0] 165) ::
oz (.store 4 (.t 17) (.t 63)) :: [])) (.seq (.seq (.reg (
 oo 64 (.faddr 0 (.t 17)) ::
oo 65 (.load1 (.t 64)) ::
oo 66 (.int .eql (.t 65) z1) ::
om 67 66 ::
og 68 67 true (.faddr 3 (.t 17)) ::
og 69 67 true (.loadn 1 (.t 68)) ::
og 70 67 true (.build [k0] []) ::
og 71 67 true (.pure (rawOp Tryz.f79 24 7)) ::
oo 72 (.pick (.t 67) (.t 71) (.c (Value.bool false))) :: [])) (.cond (.t 72) (.seq (.reg (
 oo 73 (.load1 (.t 9)) ::
oo 74 (.loadn 4 (.t 17)) ::
oo 75 (.lookup 165 (k0) false (.t 73) (.t 74)) ::
oo 76 (.ixarr 3 1 (.t 15) z0) ::
oz (.store 1 (.t 76) (.t 75)) :: [])) (.reg (
 oo 77 (.load1 (.t 12)) ::
om 78 77 ::
og 79 78 true (.loadn 3 (.t 15)) ::
og 80 78 true (.loadn 3 (.t 14)) ::
og 81 78 true (.pure (rawOp Tryz.f79 26 4)) ::
oo 82 (.pick (.t 78) (.t 81) (.c (Value.bool false))) ::
oz (.store 1 (.t 12) (.t 82)) :: []))) .skip)) (.seq (.seq (.dreg (
 oo 83 (.faddr 0 (.t 17)) ::
oo 84 (.load1 (.t 83)) ::
oo 85 (.int .add (.t 84) z1) ::
om 86 7 ::
oo 87 (.nilck (.t 86)) ::
oo 88 (.faddr 0 (.t 87)) ::
oo 89 (.faddr 0 (.t 88)) ::
oo 90 (.load1 (.t 89)) ::
oo 91 (.len (.t 90)) ::
oo 92 (.int .eql (.t 85) (.t 91)) :: []) []) (.cond (.t 92) (.reg (
 om 93 13 ::
oo 94 (.load1 (.t 9)) ::
oo 95 (.loadn 4 (.t 17)) ::
oo 96 (.lookup 165 (k0) false (.t 94) (.t 95)) ::
oo 97 (.mnmx false (.t 93) (.t 96)) ::
om 13 97 :: [])) .skip)) (.reg (
 om 98 7 ::
oo 99 (.loadn 4 (.t 17)) ::
oo 100 (.mkfn (Fn.func 135) [] [(.t 12), (.t 9), (.t 17)]) ::
oc 101 133 [(.t 98), (.t 99), (.t 100)] :: [])))))) (.reg (
 oo 102 (.int .add (.t 60) z1) ::
om 60 102 :: [])))))))) (.seq (.seq (.reg (
 oo 103 (.load1 (.t 12)) ::
oo 104 (.not (.t 103)) :: [])) (.cond (.t 104) (.seq (.reg (
 oo 4 (.mv z0) ::
oo 5 (.mv (.c (Value.int .i64 14))) :: [])) .ret) .skip)) (.seq (.reg (
 om 105 13 ::
om 4 105 ::
oo 5 (.mv z0) :: [])) .ret)))))))))))))
def r79 : List ResultVar := [.tmp 4, .tmp 5]
theorem fun79 : Fun Tryz.prog 79 106 2 a79 r79 :=
  ⟨rfl, Tryz.f79, _, rfl, rfl, rfl, by decide, rfl, rfl, rfl⟩
noncomputable def a80 : ACode := (.seq (.reg (
 oo 4 (.mv (.c (Value.bool false))) :: [])) (.seq (.seq (.reg (
 om 6 0 ::
oo 7 (.len (.t 6)) ::
om 8 1 ::
oo 9 (.len (.t 8)) ::
oo 10 (.int .neq (.t 7) (.t 9)) :: [])) (.cond (.t 10) (.seq (.reg (
 oo 4 (.mv (.c (Value.bool false))) :: [])) .ret) .skip)) (.seq (.seq (.reg (
 oo 5 (.mv z0) :: [])) (.block 0 (.loop (.seq (.seq (.reg (
 om 11 5 ::
om 12 0 ::
oo 13 (.len (.t 12)) ::
oo 14 (.int .lss (.t 11) (.t 13)) :: [])) (.cond (.t 14) .skip (.exit 0))) (.seq (.block 1 (.seq (.dreg (
 om 17 0 ::
om 18 5 ::
oo 19 (.ixsl 1 (.t 17) (.t 18)) ::
oo 20 (.load1 (.t 19)) ::
om 21 1 ::
om 22 5 ::
oo 23 (.ixsl 1 (.t 21) (.t 22)) ::
oo 24 (.load1 (.t 23)) ::
oo 25 (.int .neq (.t 20) (.t 24)) :: []) []) (.cond (.t 25) (.seq (.reg (
 oo 4 (.mv (.c (Value.bool false))) :: [])) .ret) .skip))) (.reg (
 om 15 5 ::
oo 16 (.int .add (.t 15) z1) ::
om 5 16 :: []))))))) (.seq (.reg (
 oo 4 (.mv (.c (Value.bool true))) :: [])) .ret))))
def r80 : List ResultVar := [.tmp 4]
theorem fun80 : Fun Tryz.prog 80 26 2 a80 r80 :=
  ⟨rfl, Tryz.f80, _, rfl, rfl, rfl, by decide, rfl, rfl, rfl⟩
noncomputable def a81 : ACode := (.seq (.reg (
 oo 4 (.mv (.c (Value.bool false))) :: [])) (.seq (.seq (.reg (
 om 6 0 ::
oo 7 (.len (.t 6)) ::
om 8 1 ::
oo 9 (.len (.t 8)) ::
oo 10 (.int .neq (.t 7) (.t 9)) :: [])) (.cond (.t 10) (.seq (.reg (
 oo 4 (.mv (.c (Value.bool false))) :: [])) .ret) .skip)) (.seq (.seq (.reg (
 oo 5 (.mv z0) :: [])) (.block 0 (.loop (.seq (.seq (.reg (
 om 11 5 ::
om 12 0 ::
oo 13 (.len (.t 12)) ::
oo 14 (.int .lss (.t 11) (.t 13)) :: [])) (.cond (.t 14) .skip (.exit 0))) (.seq (.block 1 (.seq (.dreg (
 om 17 0 ::
om 18 5 ::
oo 19 (.ixsl 2 (.t 17) (.t 18)) ::
oo 20 (.loadn 2 (.t 19)) ::
om 21 1 ::
om 22 5 ::
oo 23 (.ixsl 2 (.t 21) (.t 22)) ::
oo 24 (.loadn 2 (.t 23)) ::
oo 25 (.pure (rawOp Tryz.f81 6 8)) :: []) []) (.cond (.t 25) (.seq (.reg (
 oo 4 (.mv (.c (Value.bool false))) :: [])) .ret) .skip))) (.reg (
 om 15 5 ::
oo 16 (.int .add (.t 15) z1) ::
om 5 16 :: []))))))) (.seq (.reg (
 oo 4 (.mv (.c (Value.bool true))) :: [])) .ret))))
def r81 : List ResultVar := [.tmp 4]
theorem fun81 : Fun Tryz.prog 81 26 2 a81 r81 :=
  ⟨rfl, Tryz.f81, _, rfl, rfl, rfl, by decide, rfl, rfl, rfl⟩
noncomputable def a82 : ACode := (.seq (.reg (
 oo 0 (.alloc [k0, k0, Value.slice none 0 0] 24) :: [])) (.seq (.reg (
 oo 1 (.build [k0, k0] [(0, 1, (.c (Value.int .i64 2))), (1, 1, (.c (Value.int .i64 4)))]) ::
oo 2 (.build [k0, k0] [(0, 1, (.c (Value.int .i64 6))), (1, 1, (.c (Value.int .i64 6)))]) ::
oo 3 (.bslice [k0, k0, k0, k0] [(0, 2, (.t 1)), (2, 2, (.t 2))] 2 36) ::
oo 4 (.build [k0, k0] [(0, 1, z0), (1, 1, z1)]) ::
oo 5 (.build [k0, k0] [(0, 1, (.c (Value.int .i64 3))), (1, 1, (.c (Value.int .i64 3)))]) ::
oo 6 (.bslice [k0, k0, k0, k0] [(0, 2, (.t 4)), (2, 2, (.t 5))] 2 36) ::
oo 7 (.bslice [Value.slice none 0 0, Value.slice none 0 0] [(0, 1, (.t 3)), (1, 1, (.t 6))] 2 31) ::
oo 8 (.build [k0, k0, Value.slice none 0 0] [(0, 1, (.c (Value.int .i64 10))), (1, 1, (.c (Value.int .i64 6))), (2, 1, (.t 7))]) ::
oz (.store 3 (.t 0) (.t 8)) :: [])) .ret))
def r82 : List ResultVar := [.cell 0 24]
theorem fun82 : Fun Tryz.prog 82 9 0 a82 r82 :=
  ⟨rfl, Tryz.f82, _, rfl, rfl, rfl, by decide, rfl, rfl, rfl⟩
noncomputable def a83 : ACode := (.seq (.reg (
 oo 4 (.mv (.c (Value.bool false))) :: [])) (.seq (.seq (.reg (
 om 7 0 ::
oo 8 (.len (.t 7)) ::
om 9 1 ::
oo 10 (.len (.t 9)) ::
oo 11 (.int .neq (.t 8) (.t 10)) :: [])) (.cond (.t 11) (.seq (.reg (
 oo 4 (.mv (.c (Value.bool false))) :: [])) .ret) .skip)) (.seq (.seq (.reg (
 oo 5 (.mv z0) :: [])) (.block 0 (.loop (.seq (.seq (.reg (
 om 12 5 ::
om 13 0 ::
oo 14 (.len (.t 13)) ::
oo 15 (.int .lss (.t 12) (.t 14)) :: [])) (.cond (.t 15) .skip (.exit 0))) (.seq (.block 1 (.seq (.seq (.dreg (
 om 18 0 ::
om 19 5 ::
oo 20 (.ixsl 1 (.t 18) (.t 19)) ::
oo 21 (.load1 (.t 20)) ::
oo 22 (.len (.t 21)) ::
om 23 1 ::
om 24 5 ::
oo 25 (.ixsl 1 (.t 23) (.t 24)) ::
oo 26 (.load1 (.t 25)) ::
oo 27 (.len (.t 26)) ::
oo 28 (.int .neq (.t 22) (.t 27)) :: []) []) (.cond (.t 28) (.seq (.reg (
 oo 4 (.mv (.c (Value.bool false))) :: [])) .ret) .skip)) (.seq (.reg (
 oo 6 (.mv z0) :: [])) (.block 2 (.loop (.seq (.seq (.reg (
 om 29 6 ::
om 30 0 ::
om 31 5 ::
oo 32 (.ixsl 1 (.t 30) (.t 31)) ::
oo 33 (.load1 (.t 32)) ::
oo 34 (.len (.t 33)) ::
oo 35 (.int .lss (.t 29) (.t 34)) :: [])) (.cond (.t 35) .skip (.exit 2))) (.seq (.block 3 (.seq (.dreg (
 om 38 0 ::
om 39 5 ::
oo 40 (.ixsl 1 (.t 38) (.t 39)) ::
oo 41 (.load1 (.t 40)) ::
om 42 6 ::
oo 43 (.ixsl 1 (.t 41) (.t 42)) ::
oo 44 (.load1 (.t 43)) ::
om 45 1 ::
om 46 5 ::
oo 47 (.ixsl 1 (.t 45) (.t 46)) ::
oo 48 (.load1 (.t 47)) ::
om 49 6 ::
oo 50 (.ixsl 1 (.t 48) (.t 49)) ::
oo 51 (.load1 (.t 50)) ::
oo 52 (.int .neq (.t 44) (.t 51)) :: []) []) (.cond (.t 52) (.seq (.reg (
 oo 4 (.mv (.c (Value.bool false))) :: [])) .ret) .skip))) (.reg (
 om 36 6 ::
oo 37 (.int .add (.t 36) z1) ::
om 6 37 :: []))))))))) (.reg (
 om 16 5 ::
oo 17 (.int .add (.t 16) z1) ::
om 5 17 :: []))))))) (.seq (.reg (
 oo 4 (.mv (.c (Value.bool true))) :: [])) .ret))))
def r83 : List ResultVar := [.tmp 4]
theorem fun83 : Fun Tryz.prog 83 53 2 a83 r83 :=
  ⟨rfl, Tryz.f83, _, rfl, rfl, rfl, by decide, rfl, rfl, rfl⟩
noncomputable def a84 : ACode := (.seq (.reg (
 oo 0 (.alloc [k0, Value.slice none 0 0] 142) :: [])) (.seq (.reg (
 oo 1 (.bslice [k0, k0, k0] [(0, 1, z1), (1, 1, z1), (2, 1, z0)] 3 2) ::
oo 2 (.bslice [k0, k0, k0] [(0, 1, z0), (1, 1, z1), (2, 1, z1)] 3 2) ::
oo 3 (.bslice [Value.slice none 0 0, Value.slice none 0 0] [(0, 1, (.t 1)), (1, 1, (.t 2))] 2 38) ::
oo 4 (.build [k0, Value.slice none 0 0] [(0, 1, (.c (Value.int .i64 3))), (1, 1, (.t 3))]) ::
oz (.store 2 (.t 0) (.t 4)) :: [])) .ret))
def r84 : List ResultVar := [.cell 0 142]
theorem fun84 : Fun Tryz.prog 84 5 0 a84 r84 :=
  ⟨rfl, Tryz.f84, _, rfl, rfl, rfl, by decide, rfl, rfl, rfl⟩
noncomputable def a85 : ACode := (.seq (.reg (
 oo 2 (.box (.t 0) 142) ::
oo 4 (.mv (.c (Value.slice none 0 0))) ::
oo 5 (.mv z0) :: [])) (.seq (.seq (.reg (
 oo 11 (.loadn 2 (.t 2)) ::
oc 12 136 [(.t 11)] ::
om 6 12 :: [])) (.seq (.reg (
 om 13 6 ::
oo 14 (.int .neq (.t 13) z0) :: [])) (.cond (.t 14) (.seq (.reg (
 om 15 6 ::
oo 4 (.mv (.c (Value.slice none 0 0))) ::
om 5 15 :: [])) .ret) .skip))) (.seq (.block 0 (.seq (.reg (
 om 17 1 ::
oo 18 (.len (.t 17)) ::
oo 19 (.faddr 0 (.t 2)) ::
oo 20 (.load1 (.t 19)) ::
oo 21 (.int .neq (.t 18) (.t 20)) ::
om 16 21 :: [])) (.cond (.t 16) (.seq (.reg (
 oo 4 (.mv (.c (Value.slice none 0 0))) ::
oo 5 (.mv (.c (Value.int .i64 15))) :: [])) .ret) (.seq (.reg (
 om 23 1 ::
oc 24 137 [(.c (Value.int .i64 100000)), (.t 23)] ::
oo 25 (.not (.t 24)) ::
om 22 25 :: [])) (.cond (.t 22) (.seq (.reg (
 oo 4 (.mv (.c (Value.slice none 0 0))) ::
oo 5 (.mv (.c (Value.int .i64 3))) :: [])) .ret) .skip))))) (.seq (.reg (
 oo 7 (.mv (.c (Value.func (.func 138) #[] #[]))) :: [])) (.seq (.reg (
 oo 8 (.mv (.c (Value.slice none 0 0))) :: [])) (.seq (.seq (.reg (
 oo 26 (.faddr 1 (.t 2)) ::
oo 27 (.load1 (.t 26)) ::
oo 28 (.len (.t 27)) ::
oo 29 (.mv z0) :: [])) (.block 1 (.loop (.seq (.reg (
 oo 30 (.int .lss (.t 29) (.t 28)) :: [])) (.seq (.cond (.t 30) .skip (.exit 1)) (.seq (.block 2 (.seq (.reg (
 oo 31 (.ixsl 1 (.t 27) (.t 29)) ::
oo 32 (.load1 (.t 31)) ::
om 10 32 :: [])) (.reg (
 om 33 8 ::
om 34 7 ::
om 35 10 ::
oc 36 139 [(.t 35)] ::
om 37 1 ::
⟨(some 38), none, (.call (.t 34) [(.t 36), (.t 37)])⟩ ::
oo 39 (.bslice [k0] [(0, 1, (.t 38))] 1 2) ::
oo 40 (.append 2 1 8 (.t 33) (.t 39)) ::
om 8 40 :: [])))) (.reg (
 oo 41 (.int .add (.t 29) z1) ::
om 29 41 :: [])))))))) (.seq (.reg (
 om 42 8 ::
om 4 42 ::
oo 5 (.mv z0) :: [])) .ret)))))))
def r85 : List ResultVar := [.tmp 4, .tmp 5]
theorem fun85 : Fun Tryz.prog 85 43 2 a85 r85 :=
  ⟨rfl, Tryz.f85, _, rfl, rfl, rfl, by decide, rfl, rfl, rfl⟩
noncomputable def a91 : ACode := (.seq (.reg (
 oo 4 (.mv (.c (Value.bool false))) :: [])) (.seq (.seq (.reg (
 om 6 0 ::
oo 7 (.len (.t 6)) ::
om 8 1 ::
oo 9 (.len (.t 8)) ::
oo 10 (.int .neq (.t 7) (.t 9)) :: [])) (.cond (.t 10) (.seq (.reg (
 oo 4 (.mv (.c (Value.bool false))) :: [])) .ret) .skip)) (.seq (.seq (.reg (
 oo 5 (.mv z0) :: [])) (.block 0 (.loop (.seq (.seq (.reg (
 om 11 5 ::
om 12 0 ::
oo 13 (.len (.t 12)) ::
oo 14 (.int .lss (.t 11) (.t 13)) :: [])) (.cond (.t 14) .skip (.exit 0))) (.seq (.block 1 (.seq (.dreg (
 om 17 0 ::
om 18 5 ::
oo 19 (.ixsl 1 (.t 17) (.t 18)) ::
oo 20 (.load1 (.t 19)) ::
om 21 1 ::
om 22 5 ::
oo 23 (.ixsl 1 (.t 21) (.t 22)) ::
oo 24 (.load1 (.t 23)) ::
oo 25 (.int .neq (.t 20) (.t 24)) :: []) []) (.cond (.t 25) (.seq (.reg (
 oo 4 (.mv (.c (Value.bool false))) :: [])) .ret) .skip))) (.reg (
 om 15 5 ::
oo 16 (.int .add (.t 15) z1) ::
om 5 16 :: []))))))) (.seq (.reg (
 oo 4 (.mv (.c (Value.bool true))) :: [])) .ret))))
def r91 : List ResultVar := [.tmp 4]
theorem fun91 : Fun Tryz.prog 91 26 2 a91 r91 :=
  ⟨rfl, Tryz.f91, _, rfl, rfl, rfl, by decide, rfl, rfl, rfl⟩
noncomputable def a92 : ACode := (.seq (.reg (
 oo 3 (.box (.t 0) 142) ::
oo 5 (.box (.t 2) 148) ::
oo 6 (.mv z0) :: [])) (.seq (.seq (.reg (
 oo 10 (.loadn 2 (.t 3)) ::
om 11 1 ::
oc 12 148 [(.t 10), (.t 11)] ::
oo 13 (.int .neq (.t 12) z0) :: [])) (.cond (.t 13) (.seq (.reg (
 oo 14 (.loadn 2 (.t 3)) ::
om 15 1 ::
oc 16 148 [(.t 14), (.t 15)] ::
om 6 16 :: [])) .ret) .skip)) (.seq (.seq (.reg (
 oo 17 (.faddr 0 (.t 5)) ::
oo 18 (.load1 (.t 17)) ::
oo 19 (.len (.t 18)) ::
oo 20 (.faddr 1 (.t 3)) ::
oo 21 (.load1 (.t 20)) ::
oo 22 (.len (.t 21)) ::
oo 23 (.int .neq (.t 19) (.t 22)) :: [])) (.cond (.t 23) (.seq (.reg (
 oo 6 (.mv (.c (Value.int .i64 15))) :: [])) .ret) .skip)) (.seq (.seq (.reg (
 oo 24 (.faddr 0 (.t 5)) ::
oo 25 (.load1 (.t 24)) ::
oc 26 149 [(.t 25), (.c (Value.int .i64 1099511627776))] ::
oo 27 (.not (.t 26)) ::
om 28 27 ::
og 29 28 false (.faddr 1 (.t 5)) ::
og 30 28 false (.load1 (.t 29)) ::
og 31 28 false (.int .lss (.t 30) z1) ::
oo 32 (.pick (.t 28) (.c (Value.bool true)) (.t 31)) ::
om 33 32 ::
og 34 33 false (.faddr 1 (.t 5)) ::
og 35 33 false (.load1 (.t 34)) ::
og 36 33 false (.int .gtr (.t 35) (.c (Value.int .i64 1099511627776))) ::
oo 37 (.pick (.t 33) (.c (Value.bool true)) (.t 36)) :: [])) (.cond (.t 37) (.seq (.reg (
 oo 6 (.mv (.c (Value.int .i64 3))) :: [])) .ret) .skip)) (.seq (.seq (.reg (
 oo 7 (.mv z0) :: [])) (.block 0 (.loop (.seq (.seq (.reg (
 om 38 7 ::
oo 39 (.faddr 0 (.t 3)) ::
oo 40 (.load1 (.t 39)) ::
oo 41 (.int .lss (.t 38) (.t 40)) :: [])) (.cond (.t 41) .skip (.exit 0))) (.seq (.block 1 (.seq (.reg (
 oo 8 (.mv z0) :: [])) (.seq (.seq (.reg (
 oo 9 (.mv z0) :: [])) (.block 2 (.loop (.seq (.seq (.reg (
 om 44 9 ::
oo 45 (.faddr 1 (.t 3)) ::
oo 46 (.load1 (.t 45)) ::
oo 47 (.len (.t 46)) ::
oo 48 (.int .lss (.t 44) (.t 47)) :: [])) (.cond (.t 48) .skip (.exit 2))) (.seq (.block 3 (.dreg (
 om 51 8 ::
oo 52 (.faddr 1 (.t 3)) ::
oo 53 (.load1 (.t 52)) ::
om 54 9 ::
oo 55 (.ixsl 1 (.t 53) (.t 54)) ::
oo 56 (.load1 (.t 55)) ::
om 57 7 ::
oo 58 (.ixsl 1 (.t 56) (.t 57)) ::
oo 59 (.load1 (.t 58)) ::
oo 60 (.faddr 0 (.t 5)) ::
oo 61 (.load1 (.t 60)) ::
om 62 9 ::
oo 63 (.ixsl 1 (.t 61) (.t 62)) ::
oo 64 (.load1 (.t 63)) ::
oo 65 (.int .mul (.t 59) (.t 64)) ::
oo 66 (.int .add (.t 51) (.t 65)) ::
om 8 66 :: []) [])) (.reg (
 om 49 9 ::
oo 50 (.int .add (.t 49) z1) ::
om 9 50 :: []))))))) (.seq (.dreg (
 om 67 8 ::
oo 68 (.faddr 1 (.t 5)) ::
oo 69 (.load1 (.t 68)) ::
om 70 1 ::
om 71 7 ::
oo 72 (.ixsl 1 (.t 70) (.t 71)) ::
oo 73 (.load1 (.t 72)) ::
oo 74 (.int .mul (.t 69) (.t 73)) ::
oo 75 (.int .neq (.t 67) (.t 74)) :: []) []) (.cond (.t 75) (.seq (.reg (
 oo 6 (.mv (.c (Value.int .i64 14))) :: [])) .ret) .skip))))) (.reg (
 om 42 7 ::
oo 43 (.int .add (.t 42) z1) ::
om 7 43 :: []))))))) (.seq (.reg (
 oo 6 (.mv z0) :: [])) .ret))))))
def r92 : List ResultVar := [.tmp 6]
theorem fun92 : Fun Tryz.prog 92 76 3 a92 r92 :=
  ⟨rfl, Tryz.f92, _, rfl, rfl, rfl, by decide, rfl, rfl, rfl⟩
noncomputable def a93 : ACode := (.seq (.reg (
 oo 3 (.box (.t 0) 142) ::
oo 6 (.mv z0) :: [])) (.seq (.seq (.reg (
 oo 8 (.loadn 2 (.t 3)) ::
om 9 1 ::
oc 10 148 [(.t 8), (.t 9)] ::
oo 11 (.int .neq (.t 10) z0) :: [])) (.cond (.t 11) (.seq (.reg (
 oo 12 (.loadn 2 (.t 3)) ::
om 13 1 ::
oc 14 148 [(.t 12), (.t 13)] ::
om 6 14 :: [])) .ret) .skip)) (.seq (.seq (.reg (
 om 15 2 ::
oo 16 (.len (.t 15)) ::
oo 17 (.faddr 0 (.t 3)) ::
oo 18 (.load1 (.t 17)) ::
oo 19 (.int .neq (.t 16) (.t 18)) :: [])) (.cond (.t 19) (.seq (.reg (
 oo 6 (.mv (.c (Value.int .i64 15))) :: [])) .ret) .skip)) (.seq (.seq (.reg (
 om 20 2 ::
oc 21 149 [(.t 20), (.c (Value.int .i64 1099511627776))] ::
oo 22 (.not (.t 21)) :: [])) (.cond (.t 22) (.seq (.reg (
 oo 6 (.mv (.c (Value.int .i64 3))) :: [])) .ret) .skip)) (.seq (.seq (.reg (
 oo 7 (.mv z0) :: [])) (.block 0 (.loop (.seq (.seq (.reg (
 om 23 7 ::
oo 24 (.faddr 1 (.t 3)) ::
oo 25 (.load1 (.t 24)) ::
oo 26 (.len (.t 25)) ::
oo 27 (.int .lss (.t 23) (.t 26)) :: [])) (.cond (.t 27) .skip (.exit 0))) (.seq (.block 1 (.seq (.reg (
 oo 30 (.faddr 1 (.t 3)) ::
oo 31 (.load1 (.t 30)) ::
om 32 7 ::
oo 33 (.ixsl 1 (.t 31) (.t 32)) ::
oo 34 (.load1 (.t 33)) ::
om 35 2 ::
oc 36 150 [(.t 34), (.t 35)] ::
oo 37 (.int .neq (.t 36) z0) :: [])) (.cond (.t 37) (.seq (.reg (
 oo 6 (.mv (.c (Value.int .i64 14))) :: [])) .ret) .skip))) (.reg (
 om 28 7 ::
oo 29 (.int .add (.t 28) z1) ::
om 7 29 :: []))))))) (.seq (.seq (.reg (
 om 38 1 ::
om 39 2 ::
oc 40 150 [(.t 38), (.t 39)] ::
oo 41 (.int .eql (.t 40) z0) :: [])) (.cond (.t 41) (.seq (.reg (
 oo 6 (.mv (.c (Value.int .i64 14))) :: [])) .ret) .skip)) (.seq (.reg (
 oo 6 (.mv z0) :: [])) .ret)))))))
def r93 : List ResultVar := [.tmp 6]
theorem fun93 : Fun Tryz.prog 93 42 3 a93 r93 :=
  ⟨rfl, Tryz.f93, _, rfl, rfl, rfl, by decide, rfl, rfl, rfl⟩
noncomputable def a94 : ACode := (.seq (.reg (
 oo 3 (.box (.t 0) 142) ::
oo 5 (.box (.t 2) 148) ::
oo 6 (.mv z0) :: [])) (.seq (.seq (.reg (
 oo 13 (.loadn 2 (.t 3)) ::
om 14 1 ::
oc 15 141 [(.t 13), (.t 14)] ::
om 7 15 :: [])) (.seq (.reg (
 om 16 7 ::
oo 17 (.int .neq (.t 16) z0) :: [])) (.cond (.t 17) (.seq (.reg (
 om 18 7 ::
om 6 18 :: [])) .ret) .skip))) (.seq (.block 0 (.seq (.reg (
 oo 20 (.faddr 0 (.t 5)) ::
oo 21 (.load1 (.t 20)) ::
oo 22 (.len (.t 21)) ::
oo 23 (.faddr 1 (.t 3)) ::
oo 24 (.load1 (.t 23)) ::
oo 25 (.len (.t 24)) ::
oo 26 (.int .neq (.t 22) (.t 25)) ::
om 19 26 :: [])) (.cond (.t 19) (.seq (.reg (
 oo 6 (.mv (.c (Value.int .i64 15))) :: [])) .ret) (.seq (.reg (
 oo 28 (.faddr 0 (.t 5)) ::
oo 29 (.load1 (.t 28)) ::
oc 30 137 [(.c (Value.int .i64 1099511627776)), (.t 29)] ::
oo 31 (.not (.t 30)) ::
om 32 31 ::
og 33 32 false (.faddr 1 (.t 5)) ::
og 34 32 false (.load1 (.t 33)) ::
og 35 32 false (.int .lss (.t 34) z1) ::
oo 36 (.pick (.t 32) (.c (Value.bool true)) (.t 35)) ::
om 37 36 ::
og 38 37 false (.faddr 1 (.t 5)) ::
og 39 37 false (.load1 (.t 38)) ::
og 40 37 false (.int .gtr (.t 39) (.c (Value.int .i64 1099511627776))) ::
oo 41 (.pick (.t 37) (.c (Value.bool true)) (.t 40)) ::
om 27 41 :: [])) (.cond (.t 27) (.seq (.reg (
 oo 6 (.mv (.c (Value.int .i64 3))) :: [])) .ret) .skip))))) (.seq (.reg (
 oo 8 (.alloc [k0, k0, k0, k0, k0] 215) :: [])) (.seq (.seq (.reg (
 om 42 1 ::
oo 43 (.len (.t 42)) ::
oo 44 (.mv z0) :: [])) (.block 1 (.loop (.seq (.reg (
 oo 45 (.int .lss (.t 44) (.t 43)) :: [])) (.seq (.cond (.t 45) .skip (.exit 1)) (.seq (.block 2 (.seq (.reg (
 om 46 44 ::
oo 47 (.ixsl 1 (.t 42) (.t 44)) ::
oo 48 (.load1 (.t 47)) ::
om 9 46 ::
om 10 48 :: [])) (.seq (.reg (
 om 49 9 ::
oo 50 (.faddr 1 (.t 5)) ::
oo 51 (.load1 (.t 50)) ::
oo 52 (.neg (.t 51)) ::
om 53 10 ::
oo 54 (.int .mul (.t 52) (.t 53)) ::
oo 55 (.ixarr 5 1 (.t 8) (.t 49)) ::
oz (.store 1 (.t 55) (.t 54)) :: [])) (.seq (.reg (
 oo 56 (.faddr 1 (.t 3)) ::
oo 57 (.load1 (.t 56)) ::
oo 58 (.len (.t 57)) ::
oo 59 (.mv z0) :: [])) (.block 3 (.loop (.seq (.reg (
 oo 60 (.int .lss (.t 59) (.t 58)) :: [])) (.seq (.cond (.t 60) .skip (.exit 3)) (.seq (.block 4 (.seq (.reg (
 om 61 59 ::
oo 62 (.ixsl 1 (.t 57) (.t 59)) ::
oo 63 (.load1 (.t 62)) ::
om 11 61 ::
om 12 63 :: [])) (.dreg (
 om 64 9 ::
oo 65 (.ixarr 5 1 (.t 8) (.t 64)) ::
oo 66 (.load1 (.t 65)) ::
oo 67 (.faddr 0 (.t 5)) ::
oo 68 (.load1 (.t 67)) ::
om 69 11 ::
oo 70 (.ixsl 1 (.t 68) (.t 69)) ::
oo 71 (.load1 (.t 70)) ::
om 72 12 ::
om 73 9 ::
oo 74 (.ixsl 1 (.t 72) (.t 73)) ::
oo 75 (.load1 (.t 74)) ::
oo 76 (.int .mul (.t 71) (.t 75)) ::
oo 77 (.int .add (.t 66) (.t 76)) ::
oo 78 (.ixarr 5 1 (.t 8) (.t 64)) ::
oz (.store 1 (.t 78) (.t 77)) :: []) []))) (.reg (
 oo 79 (.int .add (.t 59) z1) ::
om 59 79 :: []))))))))))) (.reg (
 oo 80 (.int .add (.t 44) z1) ::
om 44 80 :: [])))))))) (.seq (.seq (.reg (
 oo 81 (.loadn 5 (.t 8)) ::
oo 82 (.build [k0, k0, k0, k0, k0] []) ::
oo 83 (.pure (rawOp Tryz.f94 19 2)) :: [])) (.cond (.t 83) (.seq (.reg (
 oo 6 (.mv (.c (Value.int .i64 14))) :: [])) .ret) .skip)) (.seq (.reg (
 oo 6 (.mv z0) :: [])) .ret)))))))
def r94 : List ResultVar := [.tmp 6]
theorem fun94 : Fun Tryz.prog 94 84 3 a94 r94 :=
  ⟨rfl, Tryz.f94, _, rfl, rfl, rfl, by decide, rfl, rfl, rfl⟩
noncomputable def a95 : ACode := (.seq (.reg (
 oo 3 (.box (.t 0) 142) ::
oo 5 (.box (.t 2) 38) ::
oo 6 (.mv z0) :: [])) (.seq (.seq (.reg (
 oo 8 (.loadn 2 (.t 3)) ::
om 9 1 ::
oc 10 141 [(.t 8), (.t 9)] ::
om 7 10 :: [])) (.seq (.reg (
 om 11 7 ::
oo 12 (.int .neq (.t 11) z0) :: [])) (.cond (.t 12) (.seq (.reg (
 om 13 7 ::
om 6 13 :: [])) .ret) .skip))) (.seq (.block 0 (.seq (.reg (
 oo 15 (.load1 (.t 5)) ::
oo 16 (.len (.t 15)) ::
oo 17 (.faddr 0 (.t 3)) ::
oo 18 (.load1 (.t 17)) ::
oo 19 (.int .neq (.t 16) (.t 18)) ::
om 14 19 :: [])) (.cond (.t 14) (.seq (.reg (
 oo 6 (.mv (.c (Value.int .i64 15))) :: [])) .ret) (.seq (.reg (
 oo 21 (.load1 (.t 5)) ::
oc 22 137 [(.c (Value.int .i64 1099511627776)), (.t 21)] ::
oo 23 (.not (.t 22)) ::
om 20 23 :: [])) (.cond (.t 20) (.seq (.reg (
 oo 6 (.mv (.c (Value.int .i64 3))) :: [])) .ret) (.seq (.dreg (
 om 25 1 ::
oc 26 139 [(.t 25)] ::
oo 27 (.load1 (.t 5)) ::
oc 28 138 [(.t 26), (.t 27)] ::
oo 29 (.int .eql (.t 28) z0) ::
om 30 29 ::
og 31 30 false (.faddr 1 (.t 3)) ::
og 32 30 false (.load1 (.t 31)) ::
og 33 30 false (.mkfn (Fn.func 152) [] [(.t 5)]) ::
ocg 34 30 false 151 [(.t 32), (.t 33)] ::
oo 35 (.pick (.t 30) (.c (Value.bool true)) (.t 34)) ::
om 24 35 :: []) []) (.cond (.t 24) (.seq (.reg (
 oo 6 (.mv (.c (Value.int .i64 14))) :: [])) .ret) .skip))))))) (.seq (.reg (
 oo 6 (.mv z0) :: [])) .ret))))
def r95 : List ResultVar := [.tmp 6]
theorem fun95 : Fun Tryz.prog 95 36 3 a95 r95 :=
  ⟨rfl, Tryz.f95, _, rfl, rfl, rfl, by decide, rfl, rfl, rfl⟩
noncomputable def a96 : ACode := (.seq (.reg (
 oo 1 (.box (.t 0) 36) ::
oo 2 (.mv (.c (Value.bool false))) :: [])) (.seq (.reg (
 oo 3 (.faddr 0 (.t 1)) ::
oo 4 (.load1 (.t 3)) ::
oo 5 (.faddr 1 (.t 1)) ::
oo 6 (.load1 (.t 5)) ::
oo 7 (.bslice [k0, k0] [(0, 1, (.t 4)), (1, 1, (.t 6))] 2 2) ::
oc 8 59 [(.c (Value.int .i64 (-1000000))), (.c (Value.int .i64 1000000)), (.t 7)] ::
oo 9 (.not (.t 8)) ::
om 10 9 ::
og 11 10 false (.faddr 1 (.t 1)) ::
og 12 10 false (.load1 (.t 11)) ::
og 13 10 false (.faddr 0 (.t 1)) ::
og 14 10 false (.load1 (.t 13)) ::
og 15 10 false (.int .sub (.t 12) (.t 14)) ::
og 16 10 false (.bslice [k0] [(0, 1, (.t 15))] 1 2) ::
ocg 17 10 false 59 [z0, (.c (Value.int .i64 4)), (.t 16)] ::
og 18 10 false (.not (.t 17)) ::
oo 19 (.pick (.t 10) (.c (Value.bool true)) (.t 18)) ::
om 2 19 :: [])) .ret))
def r96 : List ResultVar := [.tmp 2]
theorem fun96 : Fun Tryz.prog 96 20 1 a96 r96 :=
  ⟨rfl, Tryz.f96, _, rfl, rfl, rfl, by decide, rfl, rfl, rfl⟩
noncomputable def a97 : ACode := (.seq (.reg (
 oo 4 (.mv (.c (Value.bool false))) :: [])) (.seq (.reg (
 om 5 0 ::
om 6 1 ::
oc 7 153 [(.t 5), (.t 6)] ::
oo 8 (.int .geq (.t 7) z0) ::
om 4 8 :: [])) .ret))
def r97 : List ResultVar := [.tmp 4]
theorem fun97 : Fun Tryz.prog 97 9 2 a97 r97 :=
  ⟨rfl, Tryz.f97, _, rfl, rfl, rfl, by decide, rfl, rfl, rfl⟩
noncomputable def a98A0 : ACode := (.reg (
 oo 3 (.alloc [k0, k0, k0, k0] 165) ::
oz (.store 4 (.t 3) (.t 20)) :: []))
noncomputable def a98B0 : ACode := (.block 3 (.seq (.reg (
 oo 22 (.load1 (.t 1)) ::
oo 23 (.loadn 4 (.t 3)) ::
oc 24 103 [(.t 22), (.t 23)] ::
om 21 24 ::
oo 25 (.extract (.t 21) 0) ::
oo 26 (.extract (.t 21) 1) ::
om 4 25 ::
om 5 26 :: [])) (.dreg (
 oo 27 (.load1 (.t 1)) ::
oo 28 (.nilck (.t 27)) ::
oo 29 (.faddr 4 (.t 28)) ::
oo 30 (.load1 (.t 29)) ::
oo 31 (.load1 (.t 2)) ::
oo 32 (.faddr 1 (.t 3)) ::
oo 33 (.load1 (.t 32)) ::
oo 34 (.faddr 2 (.t 3)) ::
oo 35 (.load1 (.t 34)) ::
oo 36 (.faddr 3 (.t 3)) ::
oo 37 (.faddr 0 (.t 36)) ::
oo 38 (.load1 (.t 37)) ::
om 39 5 ::
oo 40 (.ixsl 75 (.t 30) (.t 31)) ::
oo 41 (.ixarr 5 15 (.t 40) (.t 33)) ::
oo 42 (.ixarr 5 3 (.t 41) (.t 35)) ::
oo 43 (.ixarr 3 1 (.t 42) (.t 38)) ::
oz (.store 1 (.t 43) (.t 39)) :: []) [])))
noncomputable def a98 : ACode := (.seq (.reg (
 oo 1 (.box (.t 0) 87) :: [])) (.seq (.reg (
 oo 6 (.load1 (.t 1)) ::
oo 7 (.nilck (.t 6)) ::
oo 8 (.faddr 0 (.t 7)) ::
oo 9 (.faddr 0 (.t 8)) ::
oo 10 (.load1 (.t 9)) ::
oo 11 (.len (.t 10)) ::
oo 12 (.int .sub (.t 11) (.c (Value.int .i64 2))) ::
oo 2 (.alloc [k0] 3) ::
oz (.store 1 (.t 2) (.t 12)) :: [])) (.block 0 (.loop (.seq (.seq (.reg (
 oo 13 (.load1 (.t 2)) ::
oo 14 (.int .gtr (.t 13) z0) :: [])) (.cond (.t 14) .skip (.exit 0))) (.seq (.block 1 (.seq (.reg (
 oo 17 (.load1 (.t 1)) ::
oo 18 (.load1 (.t 2)) ::
oc 19 154 [(.t 17), (.t 18)] :: [])) (.block 2 (.range (.t 19) [20] 45 (rfAt Tryz.f98 0).1 (rfAt Tryz.f98 0).2 a98A0 a98B0)))) (.seq (.seq (.reg (
 oo 44 (.load1 (.t 2)) :: [])) (.reg (
 oo 2 (.alloc [k0] 3) ::
oz (.store 1 (.t 2) (.t 44)) :: []))) (.reg (
 oo 15 (.load1 (.t 2)) ::
oo 16 (.int .sub (.t 15) z1) ::
oz (.store 1 (.t 2) (.t 16)) :: [])))))))))
def r98 : List ResultVar := []
theorem fun98 : Fun Tryz.prog 98 45 1 a98 r98 :=
  ⟨rfl, Tryz.f98, _, rfl, rfl, rfl, by decide, rfl, rfl, rfl⟩
noncomputable def a99 : ACode := (.seq (.reg (
 oo 4 (.mv z0) :: [])) (.seq (.dreg (
 om 5 0 ::
oo 6 (.nilck (.t 5)) ::
oo 7 (.faddr 0 (.t 6)) ::
oo 8 (.faddr 0 (.t 7)) ::
oo 9 (.load1 (.t 8)) ::
om 10 1 ::
oo 11 (.ixsl 2 (.t 9) (.t 10)) ::
oo 12 (.faddr 1 (.t 11)) ::
oo 13 (.load1 (.t 12)) ::
om 14 0 ::
oo 15 (.nilck (.t 14)) ::
oo 16 (.faddr 0 (.t 15)) ::
oo 17 (.faddr 0 (.t 16)) ::
oo 18 (.load1 (.t 17)) ::
om 19 1 ::
oo 20 (.ixsl 2 (.t 18) (.t 19)) ::
oo 21 (.faddr 0 (.t 20)) ::
oo 22 (.load1 (.t 21)) ::
oo 23 (.int .sub (.t 13) (.t 22)) ::
oo 24 (.int .add (.t 23) z1) ::
om 4 24 :: []) []) .ret))
def r99 : List ResultVar := [.tmp 4]
theorem fun99 : Fun Tryz.prog 99 25 2 a99 r99 :=
  ⟨rfl, Tryz.f99, _, rfl, rfl, rfl, by decide, rfl, rfl, rfl⟩
noncomputable def a100 : ACode := (.seq (.reg (
 oo 4 (.mv z0) ::
oo 5 (.mv z0) :: [])) (.seq (.reg (
 om 10 1 ::
⟨(some 11), none, (.call (.t 10) [z0])⟩ ::
oo 6 (.mv z0) ::
om 7 11 :: [])) (.seq (.seq (.reg (
 oo 8 (.mv z1) :: [])) (.block 0 (.loop (.seq (.seq (.reg (
 om 12 8 ::
om 13 0 ::
oo 14 (.int .lss (.t 12) (.t 13)) :: [])) (.cond (.t 14) .skip (.exit 0))) (.seq (.block 1 (.seq (.reg (
 om 17 1 ::
om 18 8 ::
⟨(some 19), none, (.call (.t 17) [(.t 18)])⟩ ::
om 9 19 :: [])) (.seq (.reg (
 om 20 9 ::
om 21 7 ::
oo 22 (.int .lss (.t 20) (.t 21)) :: [])) (.cond (.t 22) (.reg (
 om 23 8 ::
om 24 9 ::
om 6 23 ::
om 7 24 :: [])) .skip)))) (.reg (
 om 15 8 ::
oo 16 (.int .add (.t 15) z1) ::
om 8 16 :: []))))))) (.seq (.reg (
 om 25 6 ::
om 26 7 ::
om 4 25 ::
om 5 26 :: [])) .ret))))
def r100 : List ResultVar := [.tmp 4, .tmp 5]
theorem fun100 : Fun Tryz.prog 100 27 2 a100 r100 :=
  ⟨rfl, Tryz.f100, _, rfl, rfl, rfl, by decide, rfl, rfl, rfl⟩
noncomputable def a101 : ACode := (.seq (.reg (
 oo 4 (.mv z0) :: [])) (.seq (.dreg (
 oo 5 (.load1 (.t 1)) ::
om 6 0 ::
oo 7 (.load1 (.t 2)) ::
oo 8 (.idiv true (.t 6) (.t 7)) ::
om 9 0 ::
oo 10 (.load1 (.t 2)) ::
oo 11 (.idiv false (.t 9) (.t 10)) ::
oo 12 (.build [k0] []) ::
oo 13 (.build [k0, k0, k0, k0] [(0, 1, z1), (1, 1, (.t 8)), (2, 1, (.t 11)), (3, 1, (.t 12))]) ::
oc 14 102 [(.t 5), (.t 13)] ::
om 4 14 :: []) []) .ret))
def r101 : List ResultVar := [.tmp 4]
theorem fun101 : Fun Tryz.prog 101 15 3 a101 r101 :=
  ⟨rfl, Tryz.f101, _, rfl, rfl, rfl, by decide, rfl, rfl, rfl⟩
noncomputable def a102 : ACode := (.seq (.reg (
 oo 3 (.box (.t 1) 165) ::
oo 4 (.mv z0) :: [])) (.seq (.dreg (
 om 5 0 ::
oo 6 (.nilck (.t 5)) ::
oo 7 (.faddr 4 (.t 6)) ::
oo 8 (.load1 (.t 7)) ::
oo 9 (.faddr 0 (.t 3)) ::
oo 10 (.load1 (.t 9)) ::
oo 11 (.faddr 1 (.t 3)) ::
oo 12 (.load1 (.t 11)) ::
oo 13 (.faddr 2 (.t 3)) ::
oo 14 (.load1 (.t 13)) ::
oo 15 (.faddr 3 (.t 3)) ::
oo 16 (.faddr 0 (.t 15)) ::
oo 17 (.load1 (.t 16)) ::
oo 18 (.ixsl 75 (.t 8) (.t 10)) ::
oo 19 (.ixarr 5 15 (.t 18) (.t 12)) ::
oo 20 (.ixarr 5 3 (.t 19) (.t 14)) ::
oo 21 (.ixarr 3 1 (.t 20) (.t 17)) ::
oo 22 (.load1 (.t 21)) ::
om 4 22 :: []) []) .ret))
def r102 : List ResultVar := [.tmp 4]
theorem fun102 : Fun Tryz.prog 102 23 2 a102 r102 :=
  ⟨rfl, Tryz.f102, _, rfl, rfl, rfl, by decide, rfl, rfl, rfl⟩
noncomputable def a103 : ACode := (.seq (.reg (
 oo 2 (.box (.t 0) 87) ::
oo 3 (.box (.t 1) 165) ::
oo 4 (.mv z0) ::
oo 5 (.mv z0) :: [])) (.seq (.reg (
 oo 6 (.load1 (.t 2)) ::
oo 7 (.faddr 0 (.t 3)) ::
oo 8 (.load1 (.t 7)) ::
oo 9 (.int .add (.t 8) z1) ::
oc 10 99 [(.t 6), (.t 9)] ::
oo 11 (.mkfn (Fn.func 155) [] [(.t 2), (.t 3)]) ::
oc 12 100 [(.t 10), (.t 11)] ::
oo 13 (.extract (.t 12) 0) ::
oo 14 (.extract (.t 12) 1) ::
om 4 13 ::
om 5 14 :: [])) .ret))
def r103 : List ResultVar := [.tmp 4, .tmp 5]
theorem fun103 : Fun Tryz.prog 103 15 2 a103 r103 :=
  ⟨rfl, Tryz.f103, _, rfl, rfl, rfl, by decide, rfl, rfl, rfl⟩
noncomputable def a104 : ACode := (.seq (.reg (
 oo 4 (.box (.t 1) 165) ::
oo 6 (.alloc [k0, k0, k0, k0] 165) ::
oo 7 (.mv z0) :: [])) (.seq (.dreg (
 om 14 0 ::
oo 15 (.nilck (.t 14)) ::
oo 16 (.faddr 0 (.t 15)) ::
oo 17 (.faddr 0 (.t 16)) ::
oo 18 (.load1 (.t 17)) ::
oo 19 (.faddr 0 (.t 4)) ::
oo 20 (.load1 (.t 19)) ::
oo 21 (.int .sub (.t 20) z1) ::
oo 22 (.ixsl 2 (.t 18) (.t 21)) ::
oo 23 (.faddr 0 (.t 22)) ::
oo 24 (.load1 (.t 23)) ::
oo 25 (.faddr 1 (.t 4)) ::
oo 26 (.load1 (.t 25)) ::
oo 27 (.int .add (.t 24) (.t 26)) ::
om 8 27 :: []) []) (.seq (.dreg (
 om 28 0 ::
oo 29 (.nilck (.t 28)) ::
oo 30 (.faddr 0 (.t 29)) ::
oo 31 (.faddr 0 (.t 30)) ::
oo 32 (.load1 (.t 31)) ::
oo 33 (.faddr 0 (.t 4)) ::
oo 34 (.load1 (.t 33)) ::
oo 35 (.ixsl 2 (.t 32) (.t 34)) ::
oo 36 (.faddr 0 (.t 35)) ::
oo 37 (.load1 (.t 36)) ::
oo 38 (.faddr 2 (.t 4)) ::
oo 39 (.load1 (.t 38)) ::
oo 40 (.int .add (.t 37) (.t 39)) ::
om 9 40 :: []) []) (.seq (.dreg (
 om 41 0 ::
oo 42 (.nilck (.t 41)) ::
oo 43 (.faddr 0 (.t 42)) ::
oo 44 (.faddr 0 (.t 43)) ::
oo 45 (.load1 (.t 44)) ::
oo 46 (.faddr 0 (.t 4)) ::
oo 47 (.load1 (.t 46)) ::
oo 48 (.int .add (.t 47) z1) ::
oo 49 (.ixsl 2 (.t 45) (.t 48)) ::
oo 50 (.faddr 0 (.t 49)) ::
oo 51 (.load1 (.t 50)) ::
om 52 2 ::
oo 53 (.int .add (.t 51) (.t 52)) ::
om 10 53 :: []) []) (.seq (.reg (
 om 54 8 ::
om 55 9 ::
oo 56 (.int .mul (.c (Value.int .i64 2)) (.t 55)) ::
oo 57 (.int .sub (.t 54) (.t 56)) ::
om 58 10 ::
oo 59 (.int .add (.t 57) (.t 58)) ::
om 11 59 :: [])) (.seq (.reg (
 oo 61 (.faddr 3 (.t 4)) ::
oo 62 (.loadn 1 (.t 61)) ::
om 63 11 ::
oc 64 124 [(.t 62), (.t 63)] ::
om 60 64 ::
oo 65 (.extract (.t 60) 0) ::
oo 66 (.extract (.t 60) 1) ::
oo 12 (.alloc [k0] 163) ::
oz (.store 1 (.t 12) (.t 65)) ::
om 13 66 :: [])) (.seq (.dreg (
 oo 67 (.faddr 0 (.t 4)) ::
oo 68 (.load1 (.t 67)) ::
oo 69 (.int .add (.t 68) z1) ::
oo 70 (.faddr 2 (.t 4)) ::
oo 71 (.load1 (.t 70)) ::
om 72 2 ::
oo 73 (.loadn 1 (.t 12)) ::
oo 74 (.build [k0, k0, k0, k0] [(0, 1, (.t 69)), (1, 1, (.t 71)), (2, 1, (.t 72)), (3, 1, (.t 73))]) ::
om 75 0 ::
oo 76 (.nilck (.t 75)) ::
oo 77 (.faddr 2 (.t 76)) ::
oo 78 (.load1 (.t 77)) ::
om 79 11 ::
om 80 11 ::
oo 81 (.neg (.t 80)) ::
oo 82 (.mnmx true (.t 79) (.t 81)) ::
oo 83 (.int .mul (.t 78) (.t 82)) ::
om 84 0 ::
oo 85 (.nilck (.t 84)) ::
oo 86 (.faddr 3 (.t 85)) ::
oo 87 (.load1 (.t 86)) ::
om 88 13 ::
oo 89 (.int .mul (.t 87) (.t 88)) ::
oo 90 (.int .add (.t 83) (.t 89)) ::
oz (.store 4 (.t 6) (.t 74)) ::
om 7 90 :: []) [((.t 77), (.t 6)), ((.t 86), (.t 6))]) .ret)))))))
def r104 : List ResultVar := [.cell 6 165, .tmp 7]
theorem fun104 : Fun Tryz.prog 104 91 3 a104 r104 :=
  ⟨rfl, Tryz.f104, _, rfl, rfl, rfl, by decide, rfl, rfl, rfl⟩
noncomputable def a106 : ACode := (.seq (.reg (
 oo 4 (.mv (.c (Value.bool false))) :: [])) (.seq (.reg (
 om 5 0 ::
om 6 1 ::
oc 7 158 [(.t 5), (.t 6)] ::
oo 8 (.int .geq (.t 7) z0) ::
om 4 8 :: [])) .ret))
def r106 : List ResultVar := [.tmp 4]
theorem fun106 : Fun Tryz.prog 106 9 2 a106 r106 :=
  ⟨rfl, Tryz.f106, _, rfl, rfl, rfl, by decide, rfl, rfl, rfl⟩
noncomputable def a107 : ACode := (.seq (.reg (
 oo 3 (.mv (.c (Value.bool false))) :: [])) (.seq (.reg (
 om 4 0 ::
oo 5 (.len (.t 4)) ::
oo 6 (.load1 (.t 1)) ::
oo 7 (.int .neq (.t 5) (.t 6)) ::
om 3 7 :: [])) .ret))
def r107 : List ResultVar := [.tmp 3]
theorem fun107 : Fun Tryz.prog 107 8 2 a107 r107 :=
  ⟨rfl, Tryz.f107, _, rfl, rfl, rfl, by decide, rfl, rfl, rfl⟩
noncomputable def a108 : ACode := (.seq (.reg (
 oo 2 (.mv z0) :: [])) (.seq (.seq (.reg (
 om 5 0 ::
oo 6 (.len (.t 5)) ::
oo 7 (.int .lss (.t 6) z1) :: [])) (.cond (.t 7) (.reg (
 oo 8 (.mkif 9 (.c (Value.string (ByteArray.mk #[115, 108, 105, 99, 101, 115, 46, 77, 105, 110, 58, 32, 101, 109, 112, 116, 121, 32, 108, 105, 115, 116])))) ::
oz (.dead) :: [])) .skip)) (.seq (.reg (
 om 9 0 ::
oo 10 (.ixsl 1 (.t 9) z0) ::
oo 11 (.load1 (.t 10)) ::
om 3 11 :: [])) (.seq (.seq (.reg (
 oo 4 (.mv z1) :: [])) (.block 0 (.loop (.seq (.seq (.reg (
 om 12 4 ::
om 13 0 ::
oo 14 (.len (.t 13)) ::
oo 15 (.int .lss (.t 12) (.t 14)) :: [])) (.cond (.t 15) .skip (.exit 0))) (.seq (.block 1 (.reg (
 om 18 3 ::
om 19 0 ::
om 20 4 ::
oo 21 (.ixsl 1 (.t 19) (.t 20)) ::
oo 22 (.load1 (.t 21)) ::
oo 23 (.mnmx false (.t 18) (.t 22)) ::
om 3 23 :: []))) (.reg (
 om 16 4 ::
oo 17 (.int .add (.t 16) z1) ::
om 4 17 :: []))))))) (.seq (.reg (
 om 24 3 ::
om 2 24 :: [])) .ret)))))
def r108 : List ResultVar := [.tmp 2]
theorem fun108 : Fun Tryz.prog 108 25 1 a108 r108 :=
  ⟨rfl, Tryz.f108, _, rfl, rfl, rfl, by decide, rfl, rfl, rfl⟩
noncomputable def a109 : ACode := (.seq (.reg (
 oo 2 (.mv z0) :: [])) (.seq (.seq (.reg (
 om 5 0 ::
oo 6 (.len (.t 5)) ::
oo 7 (.int .lss (.t 6) z1) :: [])) (.cond (.t 7) (.reg (
 oo 8 (.mkif 9 (.c (Value.string (ByteArray.mk #[115, 108, 105, 99, 101, 115, 46, 77, 97, 120, 58, 32, 101, 109, 112, 116, 121, 32, 108, 105, 115, 116])))) ::
oz (.dead) :: [])) .skip)) (.seq (.reg (
 om 9 0 ::
oo 10 (.ixsl 1 (.t 9) z0) ::
oo 11 (.load1 (.t 10)) ::
om 3 11 :: [])) (.seq (.seq (.reg (
 oo 4 (.mv z1) :: [])) (.block 0 (.loop (.seq (.seq (.reg (
 om 12 4 ::
om 13 0 ::
oo 14 (.len (.t 13)) ::
oo 15 (.int .lss (.t 12) (.t 14)) :: [])) (.cond (.t 15) .skip (.exit 0))) (.seq (.block 1 (.reg (
 om 18 3 ::
om 19 0 ::
om 20 4 ::
oo 21 (.ixsl 1 (.t 19) (.t 20)) ::
oo 22 (.load1 (.t 21)) ::
oo 23 (.mnmx true (.t 18) (.t 22)) ::
om 3 23 :: []))) (.reg (
 om 16 4 ::
oo 17 (.int .add (.t 16) z1) ::
om 4 17 :: []))))))) (.seq (.reg (
 om 24 3 ::
om 2 24 :: [])) .ret)))))
def r109 : List ResultVar := [.tmp 2]
theorem fun109 : Fun Tryz.prog 109 25 1 a109 r109 :=
  ⟨rfl, Tryz.f109, _, rfl, rfl, rfl, by decide, rfl, rfl, rfl⟩
noncomputable def a110 : ACode := (.seq (.reg (
 oo 1 (.box (.t 0) 93) ::
oo 2 (.mv (.c (Value.nilFunc))) :: [])) (.seq (.reg (
 oo 4 (.build [k0, k0] [(0, 1, z1), (1, 1, (.c (Value.int .i64 2)))]) ::
oo 5 (.mkfn (Fn.func 159) [(.t 4)] []) ::
oo 3 (.alloc [Value.nilFunc] 248) ::
oz (.store 1 (.t 3) (.t 5)) :: [])) (.seq (.reg (
 oo 6 (.mkfn (Fn.func 160) [] [(.t 1), (.t 3)]) ::
om 2 6 :: [])) .ret)))
def r110 : List ResultVar := [.tmp 2]
theorem fun110 : Fun Tryz.prog 110 7 1 a110 r110 :=
  ⟨rfl, Tryz.f110, _, rfl, rfl, rfl, by decide, rfl, rfl, rfl⟩
noncomputable def a111 : ACode := (.seq (.reg (
 oo 4 (.box (.t 1) 179) ::
oo 6 (.mv z0) ::
oo 7 (.mv z0) :: [])) (.seq (.reg (
 oo 10 (.faddr 2 (.t 4)) ::
oo 11 (.load1 (.t 10)) ::
om 12 2 ::
oo 13 (.int .mul (.t 11) (.t 12)) ::
om 8 13 :: [])) (.seq (.seq (.reg (
 om 14 0 ::
oo 15 (.nilck (.t 14)) ::
oo 16 (.faddr 3 (.t 15)) ::
oo 17 (.load1 (.t 16)) :: [])) (.block 0 (.seq (.reg (
 oo 19 (.int .eql (.t 17) z0) ::
om 18 19 :: [])) (.cond (.t 18) (.seq (.dreg (
 om 20 0 ::
oo 21 (.nilck (.t 20)) ::
oo 22 (.faddr 0 (.t 21)) ::
oo 23 (.faddr 0 (.t 22)) ::
oo 24 (.load1 (.t 23)) ::
oo 25 (.faddr 0 (.t 4)) ::
oo 26 (.load1 (.t 25)) ::
oo 27 (.int .mul (.t 24) (.t 26)) ::
om 28 8 ::
oo 29 (.int .mul (.t 27) (.t 28)) ::
om 30 8 ::
om 6 29 ::
om 7 30 :: []) []) .ret) (.seq (.reg (
 oo 32 (.int .eql (.t 17) z1) ::
om 31 32 :: [])) (.cond (.t 31) (.seq (.dreg (
 om 33 0 ::
oo 34 (.nilck (.t 33)) ::
oo 35 (.faddr 0 (.t 34)) ::
oo 36 (.faddr 1 (.t 35)) ::
oo 37 (.load1 (.t 36)) ::
oo 38 (.faddr 1 (.t 4)) ::
oo 39 (.load1 (.t 38)) ::
oo 40 (.int .mul (.t 37) (.t 39)) ::
om 41 8 ::
oo 42 (.int .mul (.t 40) (.t 41)) ::
om 43 8 ::
om 6 42 ::
om 7 43 :: []) []) .ret) .skip)))))) (.seq (.dreg (
 om 44 0 ::
oo 45 (.nilck (.t 44)) ::
oo 46 (.faddr 0 (.t 45)) ::
oo 47 (.faddr 1 (.t 46)) ::
oo 48 (.load1 (.t 47)) ::
oo 49 (.int .mul (.c (Value.int .i64 3)) (.t 48)) ::
om 50 0 ::
oo 51 (.nilck (.t 50)) ::
oo 52 (.faddr 0 (.t 51)) ::
oo 53 (.faddr 1 (.t 52)) ::
oo 54 (.load1 (.t 53)) ::
oo 55 (.int .mul (.t 49) (.t 54)) ::
oo 56 (.faddr 1 (.t 4)) ::
oo 57 (.load1 (.t 56)) ::
oo 58 (.int .mul (.t 55) (.t 57)) ::
om 59 8 ::
oo 60 (.int .mul (.t 58) (.t 59)) ::
om 9 60 :: []) []) (.seq (.seq (.reg (
 oo 61 (.faddr 4 (.t 4)) ::
oo 62 (.load1 (.t 61)) :: [])) (.cond (.t 62) (.reg (
 om 63 9 ::
oo 64 (.faddr 3 (.t 4)) ::
oo 65 (.load1 (.t 64)) ::
oo 66 (.int .mul (.c (Value.int .i64 2)) (.t 65)) ::
om 67 2 ::
oo 68 (.int .mul (.t 66) (.t 67)) ::
om 69 2 ::
oo 70 (.int .mul (.t 68) (.t 69)) ::
om 71 2 ::
oo 72 (.int .mul (.t 70) (.t 71)) ::
oo 73 (.int .add (.t 63) (.t 72)) ::
om 9 73 :: [])) .skip)) (.seq (.dreg (
 om 74 9 ::
om 75 0 ::
oo 76 (.nilck (.t 75)) ::
oo 77 (.faddr 0 (.t 76)) ::
oo 78 (.faddr 1 (.t 77)) ::
oo 79 (.load1 (.t 78)) ::
oo 80 (.int .mul (.c (Value.int .i64 3)) (.t 79)) ::
om 81 8 ::
oo 82 (.int .mul (.t 80) (.t 81)) ::
om 6 74 ::
om 7 82 :: []) []) .ret))))))
def r111 : List ResultVar := [.tmp 6, .tmp 7]
theorem fun111 : Fun Tryz.prog 111 83 3 a111 r111 :=
  ⟨rfl, Tryz.f111, _, rfl, rfl, rfl, by decide, rfl, rfl, rfl⟩
noncomputable def a112 : ACode := (.seq (.reg (
 oo 5 (.box (.t 2) 36) ::
oo 6 (.mv z0) :: [])) (.seq (.reg (
 oo 7 (.faddr 1 (.t 5)) ::
oo 8 (.load1 (.t 7)) ::
om 6 8 :: [])) .ret))
def r112 : List ResultVar := [.tmp 6]
theorem fun112 : Fun Tryz.prog 112 9 3 a112 r112 :=
  ⟨rfl, Tryz.f112, _, rfl, rfl, rfl, by decide, rfl, rfl, rfl⟩
noncomputable def a113 : ACode := (.seq (.reg (
 oo 4 (.mv z0) :: [])) (.seq (.block 0 (.loop (.seq (.seq (.reg (
 om 5 1 ::
oo 6 (.int .neq (.t 5) z0) :: [])) (.cond (.t 6) .skip (.exit 0))) (.block 1 (.dreg (
 om 7 1 ::
om 8 0 ::
om 9 1 ::
oo 10 (.idiv false (.t 8) (.t 9)) ::
om 0 7 ::
om 1 10 :: []) []))))) (.seq (.reg (
 om 11 0 ::
om 4 11 :: [])) .ret)))
def r113 : List ResultVar := [.tmp 4]
theorem fun113 : Fun Tryz.prog 113 12 2 a113 r113 :=
  ⟨rfl, Tryz.f113, _, rfl, rfl, rfl, by decide, rfl, rfl, rfl⟩
noncomputable def a114 : ACode := (.seq (.reg (
 oo 5 (.box (.t 2) 36) ::
oo 6 (.mv z0) :: [])) (.seq (.reg (
 oo 7 (.faddr 0 (.t 5)) ::
oo 8 (.load1 (.t 7)) ::
om 6 8 :: [])) .ret))
def r114 : List ResultVar := [.tmp 6]
theorem fun114 : Fun Tryz.prog 114 9 3 a114 r114 :=
  ⟨rfl, Tryz.f114, _, rfl, rfl, rfl, by decide, rfl, rfl, rfl⟩
noncomputable def a115 : ACode := (.seq (.reg (
 oo 5 (.mv z0) :: [])) (.seq (.reg (
 oo 9 (.load1 (.t 1)) ::
oo 10 (.loadn 5 (.t 2)) ::
om 11 0 ::
oc 12 111 [(.t 9), (.t 10), (.t 11)] ::
om 8 12 ::
oo 13 (.extract (.t 8) 0) ::
oo 14 (.extract (.t 8) 1) ::
om 6 13 ::
om 7 14 :: [])) (.seq (.reg (
 oo 15 (.faddr 1 (.t 3)) ::
oo 16 (.load1 (.t 15)) ::
om 17 6 ::
oo 18 (.int .mul (.t 16) (.t 17)) ::
oo 19 (.faddr 0 (.t 3)) ::
oo 20 (.load1 (.t 19)) ::
om 21 7 ::
oo 22 (.int .mul (.t 20) (.t 21)) ::
oo 23 (.int .sub (.t 18) (.t 22)) ::
om 5 23 :: [])) .ret)))
def r115 : List ResultVar := [.tmp 5]
theorem fun115 : Fun Tryz.prog 115 24 4 a115 r115 :=
  ⟨rfl, Tryz.f115, _, rfl, rfl, rfl, by decide, rfl, rfl, rfl⟩
noncomputable def a116 : ACode := (.seq (.reg (
 oo 0 (.alloc [k0, k0, k0, k0, k0, k0, k0, k0, k0, k0, k0, k0, k0, k0, k0, k0] 70) :: [])) (.seq (.reg (
 oo 1 (.build [k0, k0] [(0, 1, (.c (Value.int .i64 2))), (1, 1, (.c (Value.int .i64 3)))]) ::
oo 2 (.build [k0, k0] [(0, 1, (.c (Value.int .i64 500))), (1, 1, (.c (Value.int .i64 1000)))]) ::
oo 3 (.build [k0, k0] [(0, 1, (.c (Value.int .i64 2000))), (1, 1, (.c (Value.int .i64 2500)))]) ::
oo 4 (.build [k0, k0] [(0, 1, (.c (Value.int .i64 200))), (1, 1, (.c (Value.int .i64 200)))]) ::
oo 5 (.build [k0, k0] [(0, 1, z0), (1, 1, (.c (Value.int .i64 100)))]) ::
oo 6 (.build [k0, k0] [(0, 1, z0), (1, 1, (.c (Value.int .i64 5)))]) ::
oo 7 (.build [k0, k0, k0, k0, k0, k0, k0, k0, k0, k0, k0, k0, k0, k0, k0, k0] [(0, 1, (.c (Value.int .i64 10))), (1, 1, (.c (Value.int .i64 1000))), (2, 1, (.c (Value.int .i64 1000000))), (3, 1, (.c (Value.int .i64 2))), (4, 2, (.t 1)), (6, 2, (.t 2)), (8, 2, (.t 3)), (10, 2, (.t 4)), (12, 2, (.t 5)), (14, 2, (.t 6))]) ::
oz (.store 16 (.t 0) (.t 7)) :: [])) .ret))
def r116 : List ResultVar := [.cell 0 70]
theorem fun116 : Fun Tryz.prog 116 8 0 a116 r116 :=
  ⟨rfl, Tryz.f116, _, rfl, rfl, rfl, by decide, rfl, rfl, rfl⟩
noncomputable def a117 : ACode := (.seq (.reg (
 oo 0 (.alloc [Value.slice none 0 0, Value.slice none 0 0] 59) :: [])) (.seq (.reg (
 oo 1 (.bslice [k0, k0, k0] [(0, 1, (.c (Value.int .i64 10))), (1, 1, (.c (Value.int .i64 20))), (2, 1, (.c (Value.int .i64 40)))] 3 2) ::
oo 2 (.bslice [k0, k0, k0] [(0, 1, (.c (Value.int .i64 100))), (1, 1, (.c (Value.int .i64 60))), (2, 1, (.c (Value.int .i64 40)))] 3 2) ::
oo 3 (.build [Value.slice none 0 0, Value.slice none 0 0] [(0, 1, (.t 1)), (1, 1, (.t 2))]) ::
oz (.store 2 (.t 0) (.t 3)) :: [])) .ret))
def r117 : List ResultVar := [.cell 0 59]
theorem fun117 : Fun Tryz.prog 117 4 0 a117 r117 :=
  ⟨rfl, Tryz.f117, _, rfl, rfl, rfl, by decide, rfl, rfl, rfl⟩
noncomputable def a118 : ACode := (.seq (.reg (
 oo 0 (.alloc [Value.slice none 0 0, Value.slice none 0 0] 59) :: [])) (.seq (.reg (
 oo 1 (.bslice [k0, k0] [(0, 1, (.c (Value.int .i64 5))), (1, 1, (.c (Value.int .i64 50)))] 2 2) ::
oo 2 (.bslice [k0, k0] [(0, 1, (.c (Value.int .i64 90))), (1, 1, (.c (Value.int .i64 45)))] 2 2) ::
oo 3 (.build [Value.slice none 0 0, Value.slice none 0 0] [(0, 1, (.t 1)), (1, 1, (.t 2))]) ::
oz (.store 2 (.t 0) (.t 3)) :: [])) .ret))
def r118 : List ResultVar := [.cell 0 59]
theorem fun118 : Fun Tryz.prog 118 4 0 a118 r118 :=
  ⟨rfl, Tryz.f118, _, rfl, rfl, rfl, by decide, rfl, rfl, rfl⟩
noncomputable def a119 : ACode := (.seq (.reg (
 oo 6 (.mv z0) ::
oo 7 (.mv z0) ::
oo 8 (.mv z0) :: [])) (.seq (.seq (.reg (
 om 20 0 ::
oo 21 (.len (.t 20)) ::
oo 22 (.int .gtr (.t 21) (.c (Value.int .i64 20))) :: [])) (.cond (.t 22) (.seq (.reg (
 oo 6 (.mv z0) ::
oo 7 (.mv z0) ::
oo 8 (.mv (.c (Value.int .i64 6))) :: [])) .ret) .skip)) (.seq (.seq (.reg (
 om 23 0 ::
oo 24 (.len (.t 23)) ::
oo 25 (.mv z0) :: [])) (.block 0 (.loop (.seq (.reg (
 oo 26 (.int .lss (.t 25) (.t 24)) :: [])) (.seq (.cond (.t 26) .skip (.exit 0)) (.seq (.block 1 (.seq (.reg (
 oo 27 (.ixsl 16 (.t 23) (.t 25)) ::
oo 28 (.loadn 16 (.t 27)) ::
oo 10 (.alloc [k0, k0, k0, k0, k0, k0, k0, k0, k0, k0, k0, k0, k0, k0, k0, k0] 70) ::
oz (.store 16 (.t 10) (.t 28)) :: [])) (.seq (.reg (
 oo 29 (.loadn 16 (.t 10)) ::
oc 30 67 [(.t 29)] ::
om 11 30 :: [])) (.seq (.reg (
 om 31 11 ::
oo 32 (.int .neq (.t 31) z0) :: [])) (.cond (.t 32) (.seq (.reg (
 om 33 11 ::
oo 6 (.mv z0) ::
oo 7 (.mv z0) ::
om 8 33 :: [])) .ret) .skip))))) (.reg (
 oo 34 (.int .add (.t 25) z1) ::
om 25 34 :: [])))))))) (.seq (.seq (.reg (
 om 35 1 ::
oc 36 126 [(.t 35)] ::
om 12 36 :: [])) (.seq (.reg (
 om 37 12 ::
oo 38 (.int .neq (.t 37) z0) :: [])) (.cond (.t 38) (.seq (.reg (
 om 39 12 ::
oo 6 (.mv z0) ::
oo 7 (.mv z0) ::
om 8 39 :: [])) .ret) .skip))) (.seq (.seq (.reg (
 om 40 2 ::
oo 41 (.len (.t 40)) ::
om 42 0 ::
oo 43 (.len (.t 42)) ::
oo 44 (.int .neq (.t 41) (.t 43)) :: [])) (.cond (.t 44) (.seq (.reg (
 oo 6 (.mv z0) ::
oo 7 (.mv z0) ::
oo 8 (.mv (.c (Value.int .i64 15))) :: [])) .ret) .skip)) (.seq (.reg (
 om 45 0 ::
oo 46 (.len (.t 45)) ::
oo 47 (.mkslice [k0, k0] 16 36 z0 (.t 46)) ::
oo 13 (.alloc [Value.slice none 0 0] 31) ::
oz (.store 1 (.t 13) (.t 47)) :: [])) (.seq (.seq (.reg (
 om 48 0 ::
oo 49 (.len (.t 48)) ::
oo 50 (.mv z0) :: [])) (.block 2 (.loop (.seq (.reg (
 oo 51 (.int .lss (.t 50) (.t 49)) :: [])) (.seq (.cond (.t 51) .skip (.exit 2)) (.seq (.block 3 (.seq (.reg (
 oo 52 (.ixsl 16 (.t 48) (.t 50)) ::
oo 53 (.loadn 16 (.t 52)) ::
oo 15 (.alloc [k0, k0, k0, k0, k0, k0, k0, k0, k0, k0, k0, k0, k0, k0, k0, k0] 70) ::
oz (.store 16 (.t 15) (.t 53)) :: [])) (.seq (.reg (
 oo 55 (.loadn 16 (.t 15)) ::
om 56 1 ::
oc 57 27 [(.t 55), (.t 56)] ::
om 54 57 ::
oo 58 (.extract (.t 54) 0) ::
oo 59 (.extract (.t 54) 1) ::
oo 16 (.alloc [k0, k0] 36) ::
oz (.store 2 (.t 16) (.t 58)) ::
om 17 59 :: [])) (.seq (.seq (.reg (
 om 60 17 ::
oo 61 (.int .neq (.t 60) z0) :: [])) (.cond (.t 61) (.seq (.reg (
 om 62 17 ::
oo 6 (.mv z0) ::
oo 7 (.mv z0) ::
om 8 62 :: [])) .ret) .skip)) (.reg (
 oo 63 (.load1 (.t 13)) ::
oo 64 (.loadn 2 (.t 16)) ::
oo 65 (.bslice [k0, k0] [(0, 2, (.t 64))] 1 36) ::
oo 66 (.append 36 2 16 (.t 63) (.t 65)) ::
oz (.store 1 (.t 13) (.t 66)) :: [])))))) (.reg (
 oo 67 (.int .add (.t 50) z1) ::
om 50 67 :: [])))))))) (.seq (.reg (
 om 68 2 ::
oo 69 (.len (.t 68)) ::
oo 70 (.mkslice [k0] 8 2 (.t 69) (.t 69)) ::
oo 18 (.alloc [Value.slice none 0 0] 38) ::
oz (.store 1 (.t 18) (.t 70)) :: [])) (.seq (.reg (
 oo 71 (.load1 (.t 18)) ::
om 72 2 ::
oo 73 (.copy 1 (.t 71) (.t 72)) :: [])) (.seq (.reg (
 oo 74 (.mkfn (Fn.func 161) [] [(.t 13), (.t 18)]) ::
om 19 74 :: [])) (.seq (.reg (
 om 75 19 ::
⟨(some 76), none, (.call (.t 75) [(.c (Value.func (.func 162) #[] #[]))])⟩ ::
om 77 19 ::
⟨(some 78), none, (.call (.t 77) [(.c (Value.func (.func 163) #[] #[]))])⟩ ::
om 6 76 ::
om 7 78 ::
oo 8 (.mv z0) :: [])) .ret)))))))))))
def r119 : List ResultVar := [.tmp 6, .tmp 7, .tmp 8]
theorem fun119 : Fun Tryz.prog 119 79 3 a119 r119 :=
  ⟨rfl, Tryz.f119, _, rfl, rfl, rfl, by decide, rfl, rfl, rfl⟩
noncomputable def a120 : ACode := (.seq (.reg (
 oo 1 (.box (.t 0) 106) ::
oo 2 (.alloc [k0, k0] 187) :: [])) (.seq (.dreg (
 oo 3 (.faddr 0 (.t 1)) ::
oo 4 (.faddr 0 (.t 3)) ::
oo 5 (.load1 (.t 4)) ::
oo 6 (.ixsl 1 (.t 5) z0) ::
oo 7 (.load1 (.t 6)) ::
oo 8 (.faddr 0 (.t 1)) ::
oo 9 (.faddr 0 (.t 8)) ::
oo 10 (.load1 (.t 9)) ::
oo 11 (.faddr 0 (.t 1)) ::
oo 12 (.faddr 0 (.t 11)) ::
oo 13 (.load1 (.t 12)) ::
oo 14 (.len (.t 13)) ::
oo 15 (.int .sub (.t 14) z1) ::
oo 16 (.ixsl 1 (.t 10) (.t 15)) ::
oo 17 (.load1 (.t 16)) ::
oo 18 (.build [k0, k0] [(0, 1, (.t 7)), (1, 1, (.t 17))]) ::
oz (.store 2 (.t 2) (.t 18)) :: []) []) .ret))
def r120 : List ResultVar := [.cell 2 187]
theorem fun120 : Fun Tryz.prog 120 19 1 a120 r120 :=
  ⟨rfl, Tryz.f120, _, rfl, rfl, rfl, by decide, rfl, rfl, rfl⟩
noncomputable def a121 : ACode := (.seq (.reg (
 oo 4 (.mv z0) :: [])) (.seq (.reg (
 om 8 0 ::
om 9 1 ::
oc 10 164 [(.t 8), (.t 9)] ::
om 7 10 ::
oo 11 (.extract (.t 7) 0) ::
oo 12 (.extract (.t 7) 1) ::
om 5 11 ::
om 6 12 :: [])) (.seq (.reg (
 om 13 5 ::
om 4 13 :: [])) .ret)))
def r121 : List ResultVar := [.tmp 4]
theorem fun121 : Fun Tryz.prog 121 14 2 a121 r121 :=
  ⟨rfl, Tryz.f121, _, rfl, rfl, rfl, by decide, rfl, rfl, rfl⟩
noncomputable def a122 : ACode := (.seq (.reg (
 oo 4 (.mv (.c (Value.bool false))) :: [])) (.seq (.reg (
 om 5 0 ::
om 6 1 ::
oc 7 165 [(.t 5), (.t 6)] ::
oo 8 (.int .geq (.t 7) z0) ::
om 4 8 :: [])) .ret))
def r122 : List ResultVar := [.tmp 4]
theorem fun122 : Fun Tryz.prog 122 9 2 a122 r122 :=
  ⟨rfl, Tryz.f122, _, rfl, rfl, rfl, by decide, rfl, rfl, rfl⟩
noncomputable def a123 : ACode := (.seq (.reg (
 oo 4 (.mv (.c (Value.bool false))) :: [])) (.seq (.reg (
 om 5 0 ::
oo 6 (.load1 (.t 1)) ::
oo 7 (.int .lss (.t 5) (.t 6)) ::
om 8 7 ::
og 9 8 false (.mv (.t 0)) ::
og 10 8 false (.load1 (.t 2)) ::
og 11 8 false (.int .gtr (.t 9) (.t 10)) ::
oo 12 (.pick (.t 8) (.c (Value.bool true)) (.t 11)) ::
om 4 12 :: [])) .ret))
def r123 : List ResultVar := [.tmp 4]
theorem fun123 : Fun Tryz.prog 123 13 3 a123 r123 :=
  ⟨rfl, Tryz.f123, _, rfl, rfl, rfl, by decide, rfl, rfl, rfl⟩
noncomputable def a124 : ACode := (.seq (.reg (
 oo 2 (.box (.t 0) 163) ::
oo 4 (.alloc [k0] 163) ::
oo 5 (.mv z0) :: [])) (.seq (.reg (
 oo 7 (.faddr 0 (.t 2)) ::
oo 8 (.load1 (.t 7)) ::
om 6 8 :: [])) (.seq (.block 0 (.seq (.reg (
 om 10 1 ::
oo 11 (.int .gtr (.t 10) z0) ::
om 9 11 :: [])) (.cond (.t 9) (.reg (
 oo 6 (.mv z1) :: [])) (.seq (.reg (
 om 13 1 ::
oo 14 (.int .lss (.t 13) z0) ::
om 12 14 :: [])) (.cond (.t 12) (.reg (
 oo 6 (.mv (.c (Value.int .i64 2))) :: [])) .skip))))) (.seq (.seq (.reg (
 oo 15 (.faddr 0 (.t 2)) ::
oo 16 (.load1 (.t 15)) ::
oo 17 (.int .neq (.t 16) z0) ::
om 18 17 ::
og 19 18 true (.mv (.t 6)) ::
og 20 18 true (.faddr 0 (.t 2)) ::
og 21 18 true (.load1 (.t 20)) ::
og 22 18 true (.int .neq (.t 19) (.t 21)) ::
oo 23 (.pick (.t 18) (.t 22) (.c (Value.bool false))) :: [])) (.cond (.t 23) (.seq (.reg (
 om 24 6 ::
oo 25 (.build [k0] [(0, 1, (.t 24))]) ::
oz (.store 1 (.t 4) (.t 25)) ::
oo 5 (.mv z1) :: [])) .ret) .skip)) (.seq (.reg (
 om 26 6 ::
oo 27 (.build [k0] [(0, 1, (.t 26))]) ::
oz (.store 1 (.t 4) (.t 27)) ::
oo 5 (.mv z0) :: [])) .ret)))))
def r124 : List ResultVar := [.cell 4 163, .tmp 5]
theorem fun124 : Fun Tryz.prog 124 28 2 a124 r124 :=
  ⟨rfl, Tryz.f124, _, rfl, rfl, rfl, by decide, rfl, rfl, rfl⟩
noncomputable def a126 : ACode := (.seq (.reg (
 oo 2 (.mv z0) :: [])) (.seq (.seq (.reg (
 om 6 0 ::
oo 7 (.len (.t 6)) ::
oo 8 (.int .eql (.t 7) z0) ::
om 9 8 ::
og 10 9 false (.mv (.t 0)) ::
og 11 9 false (.len (.t 10)) ::
og 12 9 false (.int .gtr (.t 11) (.c (Value.int .i64 4))) ::
oo 13 (.pick (.t 9) (.c (Value.bool true)) (.t 12)) :: [])) (.cond (.t 13) (.seq (.reg (
 oo 2 (.mv (.c (Value.int .i64 6))) :: [])) .ret) .skip)) (.seq (.seq (.reg (
 om 14 0 ::
oo 15 (.len (.t 14)) ::
oo 16 (.mv z0) :: [])) (.block 0 (.loop (.seq (.reg (
 oo 17 (.int .lss (.t 16) (.t 15)) :: [])) (.seq (.cond (.t 17) .skip (.exit 0)) (.seq (.block 1 (.seq (.reg (
 oo 18 (.ixsl 2 (.t 14) (.t 16)) ::
oo 19 (.loadn 2 (.t 18)) ::
oo 4 (.alloc [Value.slice none 0 0, Value.slice none 0 0] 59) ::
oz (.store 2 (.t 4) (.t 19)) :: [])) (.seq (.reg (
 oo 20 (.loadn 2 (.t 4)) ::
oc 21 56 [(.t 20)] ::
om 5 21 :: [])) (.seq (.reg (
 om 22 5 ::
oo 23 (.int .neq (.t 22) z0) :: [])) (.cond (.t 23) (.seq (.reg (
 om 24 5 ::
om 2 24 :: [])) .ret) .skip))))) (.reg (
 oo 25 (.int .add (.t 16) z1) ::
om 16 25 :: [])))))))) (.seq (.reg (
 oo 2 (.mv z0) :: [])) .ret))))
def r126 : List ResultVar := [.tmp 2]
theorem fun126 : Fun Tryz.prog 126 26 1 a126 r126 :=
  ⟨rfl, Tryz.f126, _, rfl, rfl, rfl, by decide, rfl, rfl, rfl⟩
noncomputable def a127 : ACode := (.seq (.reg (
 oo 4 (.mv (.c (Value.bool false))) :: [])) (.seq (.reg (
 om 5 0 ::
om 6 1 ::
oc 7 166 [(.t 5), (.t 6)] ::
oo 8 (.int .geq (.t 7) z0) ::
om 4 8 :: [])) .ret))
def r127 : List ResultVar := [.tmp 4]
theorem fun127 : Fun Tryz.prog 127 9 2 a127 r127 :=
  ⟨rfl, Tryz.f127, _, rfl, rfl, rfl, by decide, rfl, rfl, rfl⟩
noncomputable def a128 : ACode := (.seq (.reg (
 oo 2 (.box (.t 0) 59) ::
oo 3 (.mv (.c (Value.bool false))) :: [])) (.seq (.reg (
 oo 4 (.loadn 16 (.t 1)) ::
oo 5 (.loadn 2 (.t 2)) ::
oo 6 (.build [Value.slice none 0 0, Value.slice none 0 0] [(0, 2, (.t 5))]) ::
oc 7 129 [(.t 4), (.t 6)] ::
oo 8 (.not (.t 7)) ::
om 3 8 :: [])) .ret))
def r128 : List ResultVar := [.tmp 3]
theorem fun128 : Fun Tryz.prog 128 9 2 a128 r128 :=
  ⟨rfl, Tryz.f128, _, rfl, rfl, rfl, by decide, rfl, rfl, rfl⟩
noncomputable def a129 : ACode := (.seq (.reg (
 oo 2 (.box (.t 0) 115) ::
oo 3 (.box (.t 1) 106) ::
oo 4 (.mv (.c (Value.bool false))) :: [])) (.seq (.reg (
 oo 6 (.loadn 16 (.t 2)) ::
oc 7 75 [(.t 6)] ::
oo 5 (.alloc [k0, k0, k0, k0] 130) ::
oz (.store 4 (.t 5) (.t 7)) :: [])) (.seq (.reg (
 oo 8 (.loadn 2 (.t 3)) ::
oo 9 (.ixarr 2 2 (.t 5) z0) ::
oo 10 (.loadn 2 (.t 9)) ::
oc 11 57 [(.t 8), (.t 10)] ::
om 12 11 ::
og 13 12 true (.loadn 2 (.t 3)) ::
og 14 12 true (.ixarr 2 2 (.t 5) z1) ::
og 15 12 true (.loadn 2 (.t 14)) ::
ocg 16 12 true 57 [(.t 13), (.t 15)] ::
oo 17 (.pick (.t 12) (.t 16) (.c (Value.bool false))) ::
om 4 17 :: [])) .ret)))
def r129 : List ResultVar := [.tmp 4]
theorem fun129 : Fun Tryz.prog 129 18 2 a129 r129 :=
  ⟨rfl, Tryz.f129, _, rfl, rfl, rfl, by decide, rfl, rfl, rfl⟩
noncomputable def a130 : ACode := (.seq (.reg (
 oo 1 (.box (.t 0) 199) ::
oo 2 (.mv (.c (Value.nilFunc))) :: [])) (.seq (.reg (
 oo 3 (.mkfn (Fn.func 167) [] [(.t 1)]) ::
om 2 3 :: [])) .ret))
def r130 : List ResultVar := [.tmp 2]
theorem fun130 : Fun Tryz.prog 130 4 1 a130 r130 :=
  ⟨rfl, Tryz.f130, _, rfl, rfl, rfl, by decide, rfl, rfl, rfl⟩
noncomputable def a131 : ACode := (.seq (.reg (
 oo 4 (.mv z0) :: [])) (.seq (.dreg (
 oo 5 (.faddr 3 (.t 1)) ::
oo 6 (.load1 (.t 5)) ::
oo 7 (.int .add (.c (Value.int .i64 1000)) (.t 6)) ::
oo 8 (.load1 (.t 2)) ::
om 9 0 ::
⟨(some 10), none, (.call (.t 8) [(.t 9)])⟩ ::
oo 11 (.int .mul (.t 7) (.t 10)) ::
oo 12 (.idiv true (.t 11) (.c (Value.int .i64 1000))) ::
om 4 12 :: []) []) .ret))
def r131 : List ResultVar := [.tmp 4]
theorem fun131 : Fun Tryz.prog 131 13 3 a131 r131 :=
  ⟨rfl, Tryz.f131, _, rfl, rfl, rfl, by decide, rfl, rfl, rfl⟩
noncomputable def a132A0 : ACode := (.reg (
 oo 5 (.alloc [k0, k0, k0, k0] 165) ::
oz (.store 4 (.t 5) (.t 19)) :: []))
noncomputable def a132B0 : ACode := (.block 3 (.reg (
 oo 20 (.load1 (.t 3)) ::
oo 21 (.loadn 4 (.t 5)) ::
oo 22 (.bslice [k0, k0, k0, k0] [(0, 4, (.t 21))] 1 165) ::
oo 23 (.append 165 4 32 (.t 20) (.t 22)) ::
oz (.store 1 (.t 3) (.t 23)) :: [])))
noncomputable def a132 : ACode := (.seq (.reg (
 oo 2 (.mv (.c (Value.slice none 0 0))) :: [])) (.seq (.reg (
 oo 3 (.alloc [Value.slice none 0 0] 204) :: [])) (.seq (.seq (.reg (
 oo 4 (.mv z1) :: [])) (.block 0 (.loop (.seq (.seq (.reg (
 om 6 4 ::
om 7 0 ::
oo 8 (.nilck (.t 7)) ::
oo 9 (.faddr 0 (.t 8)) ::
oo 10 (.faddr 0 (.t 9)) ::
oo 11 (.load1 (.t 10)) ::
oo 12 (.len (.t 11)) ::
oo 13 (.int .lss (.t 6) (.t 12)) :: [])) (.cond (.t 13) .skip (.exit 0))) (.seq (.block 1 (.seq (.reg (
 om 16 0 ::
om 17 4 ::
oc 18 154 [(.t 16), (.t 17)] :: [])) (.block 2 (.range (.t 18) [19] 25 (rfAt Tryz.f132 0).1 (rfAt Tryz.f132 0).2 a132A0 a132B0)))) (.reg (
 om 14 4 ::
oo 15 (.int .add (.t 14) z1) ::
om 4 15 :: []))))))) (.seq (.reg (
 oo 24 (.load1 (.t 3)) ::
om 2 24 :: [])) .ret))))
def r132 : List ResultVar := [.tmp 2]
theorem fun132 : Fun Tryz.prog 132 25 1 a132 r132 :=
  ⟨rfl, Tryz.f132, _, rfl, rfl, rfl, by decide, rfl, rfl, rfl⟩
noncomputable def a133 : ACode := (.seq (.reg (
 oo 4 (.box (.t 1) 165) :: [])) (.seq (.seq (.dreg (
 oo 7 (.faddr 0 (.t 4)) ::
oo 8 (.load1 (.t 7)) ::
oo 9 (.int .add (.t 8) z1) ::
om 10 0 ::
oo 11 (.nilck (.t 10)) ::
oo 12 (.faddr 0 (.t 11)) ::
oo 13 (.faddr 0 (.t 12)) ::
oo 14 (.load1 (.t 13)) ::
oo 15 (.len (.t 14)) ::
oo 16 (.int .eql (.t 9) (.t 15)) :: []) []) (.cond (.t 16) .ret .skip)) (.seq (.reg (
 om 17 0 ::
oo 18 (.faddr 0 (.t 4)) ::
oo 19 (.load1 (.t 18)) ::
oo 20 (.int .add (.t 19) z1) ::
oc 21 99 [(.t 17), (.t 20)] ::
oo 22 (.mv z0) :: [])) (.block 0 (.loop (.seq (.reg (
 oo 23 (.int .lss (.t 22) (.t 21)) :: [])) (.seq (.cond (.t 23) .skip (.exit 0)) (.seq (.block 1 (.seq (.reg (
 om 24 22 ::
om 6 24 :: [])) (.reg (
 om 25 2 ::
om 26 0 ::
oo 27 (.loadn 4 (.t 4)) ::
om 28 6 ::
oc 29 104 [(.t 26), (.t 27), (.t 28)] ::
oo 30 (.extract (.t 29) 0) ::
oo 31 (.extract (.t 29) 1) ::
⟨(some 32), none, (.call (.t 25) [(.t 30), (.t 31)])⟩ :: [])))) (.reg (
 oo 33 (.int .add (.t 22) z1) ::
om 22 33 :: []))))))))))
def r133 : List ResultVar := []
theorem fun133 : Fun Tryz.prog 133 34 3 a133 r133 :=
  ⟨rfl, Tryz.f133, _, rfl, rfl, rfl, by decide, rfl, rfl, rfl⟩
noncomputable def a134 : ACode := (.seq (.reg (
 oo 4 (.box (.t 0) 165) :: [])) (.seq (.reg (
 oo 9 (.load1 (.t 2)) ::
oo 10 (.loadn 4 (.t 4)) ::
oo 11 (.lookup 165 (k0) true (.t 9) (.t 10)) ::
om 8 11 ::
oo 12 (.extract (.t 8) 0) ::
oo 13 (.extract (.t 8) 1) ::
om 6 12 ::
om 7 13 :: [])) (.seq (.reg (
 om 14 7 ::
oo 15 (.not (.t 14)) ::
om 16 15 ::
og 17 16 false (.load1 (.t 3)) ::
og 18 16 false (.mv (.t 1)) ::
og 19 16 false (.int .add (.t 17) (.t 18)) ::
og 20 16 false (.mv (.t 6)) ::
og 21 16 false (.int .lss (.t 19) (.t 20)) ::
oo 22 (.pick (.t 16) (.c (Value.bool true)) (.t 21)) :: [])) (.cond (.t 22) (.reg (
 oo 23 (.load1 (.t 2)) ::
oo 24 (.loadn 4 (.t 4)) ::
oo 25 (.load1 (.t 3)) ::
om 26 1 ::
oo 27 (.int .add (.t 25) (.t 26)) ::
oz (.mapup 165 (.t 23) (.t 24) (.t 27)) :: [])) .skip))))
def r134 : List ResultVar := []
theorem fun134 : Fun Tryz.prog 134 28 4 a134 r134 :=
  ⟨rfl, Tryz.f134, _, rfl, rfl, rfl, by decide, rfl, rfl, rfl⟩
noncomputable def a135 : ACode := (.seq (.reg (
 oo 5 (.box (.t 0) 165) :: [])) (.dreg (
 oo 7 (.load1 (.t 2)) ::
om 8 7 ::
og 9 8 true (.load1 (.t 3)) ::
og 10 8 true (.loadn 4 (.t 5)) ::
og 11 8 true (.lookup 165 (k0) false (.t 9) (.t 10)) ::
og 12 8 true (.load1 (.t 3)) ::
og 13 8 true (.loadn 4 (.t 4)) ::
og 14 8 true (.lookup 165 (k0) false (.t 12) (.t 13)) ::
og 15 8 true (.mv (.t 1)) ::
og 16 8 true (.int .add (.t 14) (.t 15)) ::
og 17 8 true (.int .leq (.t 11) (.t 16)) ::
oo 18 (.pick (.t 8) (.t 17) (.c (Value.bool false))) ::
oz (.store 1 (.t 2) (.t 18)) :: []) []))
def r135 : List ResultVar := []
theorem fun135 : Fun Tryz.prog 135 19 5 a135 r135 :=
  ⟨rfl, Tryz.f135, _, rfl, rfl, rfl, by decide, rfl, rfl, rfl⟩
noncomputable def a136 : ACode := (.seq (.reg (
 oo 1 (.box (.t 0) 142) ::
oo 2 (.mv z0) :: [])) (.seq (.block 0 (.seq (.reg (
 oo 4 (.faddr 1 (.t 1)) ::
oo 5 (.load1 (.t 4)) ::
oo 6 (.len (.t 5)) ::
oo 7 (.int .gtr (.t 6) (.c (Value.int .i64 8))) ::
om 3 7 :: [])) (.cond (.t 3) (.seq (.reg (
 oo 2 (.mv (.c (Value.int .i64 6))) :: [])) .ret) (.seq (.reg (
 oo 9 (.faddr 0 (.t 1)) ::
oo 10 (.load1 (.t 9)) ::
oo 11 (.int .lss (.t 10) z1) ::
om 12 11 ::
og 13 12 false (.faddr 0 (.t 1)) ::
og 14 12 false (.load1 (.t 13)) ::
og 15 12 false (.int .gtr (.t 14) (.c (Value.int .i64 5))) ::
oo 16 (.pick (.t 12) (.c (Value.bool true)) (.t 15)) ::
om 8 16 :: [])) (.cond (.t 8) (.seq (.reg (
 oo 2 (.mv (.c (Value.int .i64 2))) :: [])) .ret) (.seq (.reg (
 oo 18 (.faddr 1 (.t 1)) ::
oo 19 (.load1 (.t 18)) ::
oo 20 (.mkfn (Fn.func 168) [] [(.t 1)]) ::
oc 21 151 [(.t 19), (.t 20)] ::
om 17 21 :: [])) (.cond (.t 17) (.seq (.reg (
 oo 2 (.mv (.c (Value.int .i64 15))) :: [])) .ret) (.seq (.reg (
 oo 23 (.faddr 1 (.t 1)) ::
oo 24 (.load1 (.t 23)) ::
oc 25 151 [(.t 24), (.c (Value.func (.func 169) #[] #[]))] ::
om 22 25 :: [])) (.cond (.t 22) (.seq (.reg (
 oo 2 (.mv (.c (Value.int .i64 3))) :: [])) .ret) .skip))))))))) (.seq (.reg (
 oo 2 (.mv z0) :: [])) .ret)))
def r136 : List ResultVar := [.tmp 2]
theorem fun136 : Fun Tryz.prog 136 26 1 a136 r136 :=
  ⟨rfl, Tryz.f136, _, rfl, rfl, rfl, by decide, rfl, rfl, rfl⟩
noncomputable def a137 : ACode := (.seq (.reg (
 oo 2 (.box (.t 0) 2) ::
oo 4 (.mv (.c (Value.bool false))) :: [])) (.seq (.reg (
 om 5 1 ::
oo 6 (.mkfn (Fn.func 170) [] [(.t 2)]) ::
oc 7 122 [(.t 5), (.t 6)] ::
oo 8 (.not (.t 7)) ::
om 4 8 :: [])) .ret))
def r137 : List ResultVar := [.tmp 4]
theorem fun137 : Fun Tryz.prog 137 9 2 a137 r137 :=
  ⟨rfl, Tryz.f137, _, rfl, rfl, rfl, by decide, rfl, rfl, rfl⟩
noncomputable def a138 : ACode := (.seq (.reg (
 oo 2 (.box (.t 0) 215) ::
oo 4 (.mv z0) :: [])) (.seq (.reg (
 oo 5 (.mv z0) :: [])) (.seq (.seq (.reg (
 om 8 1 ::
oo 9 (.len (.t 8)) ::
oo 10 (.mv z0) :: [])) (.block 0 (.loop (.seq (.reg (
 oo 11 (.int .lss (.t 10) (.t 9)) :: [])) (.seq (.cond (.t 11) .skip (.exit 0)) (.seq (.block 1 (.seq (.reg (
 om 12 10 ::
oo 13 (.ixsl 1 (.t 8) (.t 10)) ::
oo 14 (.load1 (.t 13)) ::
om 6 12 ::
om 7 14 :: [])) (.reg (
 om 15 5 ::
om 16 6 ::
oo 17 (.ixarr 5 1 (.t 2) (.t 16)) ::
oo 18 (.load1 (.t 17)) ::
om 19 7 ::
oo 20 (.int .mul (.t 18) (.t 19)) ::
oo 21 (.int .add (.t 15) (.t 20)) ::
om 5 21 :: [])))) (.reg (
 oo 22 (.int .add (.t 10) z1) ::
om 10 22 :: [])))))))) (.seq (.reg (
 om 23 5 ::
om 4 23 :: [])) .ret))))
def r138 : List ResultVar := [.tmp 4]
theorem fun138 : Fun Tryz.prog 138 24 2 a138 r138 :=
  ⟨rfl, Tryz.f138, _, rfl, rfl, rfl, by decide, rfl, rfl, rfl⟩
noncomputable def a139 : ACode := (.seq (.reg (
 oo 2 (.alloc [k0, k0, k0, k0, k0] 215) :: [])) (.seq (.reg (
 oo 3 (.alloc [k0, k0, k0, k0, k0] 215) :: [])) (.seq (.reg (
 oo 4 (.slarr 5 1 (.t 3) none none none) ::
om 5 0 ::
oo 6 (.copy 1 (.t 4) (.t 5)) :: [])) (.seq (.reg (
 oo 7 (.loadn 5 (.t 3)) ::
oz (.store 5 (.t 2) (.t 7)) :: [])) .ret))))
def r139 : List ResultVar := [.cell 2 215]
theorem fun139 : Fun Tryz.prog 139 8 1 a139 r139 :=
  ⟨rfl, Tryz.f139, _, rfl, rfl, rfl, by decide, rfl, rfl, rfl⟩
noncomputable def a141 : ACode := (.seq (.reg (
 oo 2 (.box (.t 0) 142) ::
oo 4 (.mv z0) :: [])) (.seq (.seq (.reg (
 oo 6 (.loadn 2 (.t 2)) ::
oc 7 136 [(.t 6)] ::
om 5 7 :: [])) (.seq (.reg (
 om 8 5 ::
oo 9 (.int .neq (.t 8) z0) :: [])) (.cond (.t 9) (.seq (.reg (
 om 10 5 ::
om 4 10 :: [])) .ret) .skip))) (.seq (.reg (
 oo 11 (.loadn 2 (.t 2)) ::
om 12 1 ::
oc 13 147 [(.t 11), (.t 12)] ::
om 4 13 :: [])) .ret)))
def r141 : List ResultVar := [.tmp 4]
theorem fun141 : Fun Tryz.prog 141 14 2 a141 r141 :=
  ⟨rfl, Tryz.f141, _, rfl, rfl, rfl, by decide, rfl, rfl, rfl⟩
noncomputable def a142 : ACode := (.seq (.reg (
 oo 3 (.box (.t 1) 228) ::
oo 4 (.alloc [k0, k0, k0, k0, k0, k0, k0, k0, k0, k0, k0, k0, k0, k0, k0] 228) :: [])) (.seq (.seq (.reg (
 om 8 0 ::
oo 9 (.nilck (.t 8)) ::
oo 10 (.faddr 0 (.t 9)) ::
oo 11 (.load1 (.t 10)) ::
oo 12 (.mv z0) :: [])) (.block 0 (.loop (.seq (.reg (
 oo 13 (.int .lss (.t 12) (.t 11)) :: [])) (.seq (.cond (.t 13) .skip (.exit 0)) (.seq (.block 1 (.seq (.reg (
 om 14 12 ::
om 5 14 :: [])) (.seq (.reg (
 om 16 0 ::
oo 17 (.nilck (.t 16)) ::
oo 18 (.faddr 1 (.t 17)) ::
oo 19 (.load1 (.t 18)) ::
om 20 5 ::
oo 21 (.lookup 3 (Value.agg #[k0, k0, k0, k0, k0, k0, k0, k0, k0, k0, k0, k0, k0, k0, k0]) true (.t 19) (.t 20)) ::
om 15 21 ::
oo 22 (.extract (.t 15) 0) ::
oo 23 (.extract (.t 15) 1) ::
oo 6 (.alloc [k0, k0, k0, k0, k0, k0, k0, k0, k0, k0, k0, k0, k0, k0, k0] 228) ::
oz (.store 15 (.t 6) (.t 22)) ::
om 7 23 :: [])) (.seq (.reg (
 om 24 7 ::
om 25 24 ::
og 26 25 true (.mv (.t 5)) ::
og 27 25 true (.faddr 0 (.t 3)) ::
og 28 25 true (.faddr 0 (.t 27)) ::
og 29 25 true (.ixarr 5 1 (.t 28) (.t 26)) ::
og 30 25 true (.load1 (.t 29)) ::
og 31 25 true (.int .neq (.t 30) z0) ::
oo 32 (.pick (.t 25) (.t 31) (.c (Value.bool false))) :: [])) (.cond (.t 32) (.dreg (
 oo 33 (.loadn 15 (.t 3)) ::
oo 34 (.loadn 15 (.t 6)) ::
om 35 5 ::
oo 36 (.faddr 0 (.t 6)) ::
oo 37 (.faddr 0 (.t 36)) ::
oo 38 (.ixarr 5 1 (.t 37) (.t 35)) ::
oo 39 (.load1 (.t 38)) ::
om 40 5 ::
oo 41 (.faddr 0 (.t 3)) ::
oo 42 (.faddr 0 (.t 41)) ::
oo 43 (.ixarr 5 1 (.t 42) (.t 40)) ::
oo 44 (.load1 (.t 43)) ::
oo 45 (.neg (.t 44)) ::
oc 46 144 [(.t 33), (.t 34), (.t 39), (.t 45)] ::
oc 47 172 [(.t 46)] ::
oz (.store 15 (.t 3) (.t 47)) :: []) []) .skip))))) (.reg (
 oo 48 (.int .add (.t 12) z1) ::
om 12 48 :: [])))))))) (.seq (.reg (
 oo 49 (.loadn 15 (.t 3)) ::
oz (.store 15 (.t 4) (.t 49)) :: [])) .ret)))
def r142 : List ResultVar := [.cell 4 228]
theorem fun142 : Fun Tryz.prog 142 50 2 a142 r142 :=
  ⟨rfl, Tryz.f142, _, rfl, rfl, rfl, by decide, rfl, rfl, rfl⟩
noncomputable def a143 : ACode := (.seq (.reg (
 oo 2 (.alloc [k0, k0, k0, k0, k0, k0, k0, k0, k0, k0, k0, k0, k0, k0, k0] 228) :: [])) (.seq (.reg (
 om 3 0 ::
oc 4 139 [(.t 3)] ::
oo 5 (.build [k0, k0, k0, k0, k0, k0] [(0, 5, (.t 4))]) ::
oo 6 (.build [k0, k0, k0, k0, k0, k0, k0, k0, k0, k0, k0, k0, k0, k0, k0] [(0, 6, (.t 5)), (14, 1, z1)]) ::
oz (.store 15 (.t 2) (.t 6)) :: [])) .ret))
def r143 : List ResultVar := [.cell 2 228]
theorem fun143 : Fun Tryz.prog 143 7 1 a143 r143 :=
  ⟨rfl, Tryz.f143, _, rfl, rfl, rfl, by decide, rfl, rfl, rfl⟩
noncomputable def a144 : ACode := (.seq (.reg (
 oo 4 (.box (.t 0) 228) ::
oo 5 (.box (.t 1) 228) ::
oo 8 (.alloc [k0, k0, k0, k0, k0, k0, k0, k0, k0, k0, k0, k0, k0, k0, k0] 228) :: [])) (.seq (.reg (
 om 12 2 ::
oo 13 (.faddr 14 (.t 4)) ::
oo 14 (.load1 (.t 13)) ::
oo 15 (.int .mul (.t 12) (.t 14)) ::
om 16 3 ::
oo 17 (.faddr 14 (.t 5)) ::
oo 18 (.load1 (.t 17)) ::
oo 19 (.int .mul (.t 16) (.t 18)) ::
oo 20 (.int .add (.t 15) (.t 19)) ::
oo 21 (.build [k0, k0, k0, k0, k0, k0, k0, k0, k0, k0, k0, k0, k0, k0, k0] [(14, 1, (.t 20))]) ::
oo 9 (.alloc [k0, k0, k0, k0, k0, k0, k0, k0, k0, k0, k0, k0, k0, k0, k0] 228) ::
oz (.store 15 (.t 9) (.t 21)) :: [])) (.seq (.reg (
 om 22 2 ::
oo 23 (.faddr 0 (.t 4)) ::
oo 24 (.faddr 5 (.t 23)) ::
oo 25 (.load1 (.t 24)) ::
oo 26 (.int .mul (.t 22) (.t 25)) ::
om 27 3 ::
oo 28 (.faddr 0 (.t 5)) ::
oo 29 (.faddr 5 (.t 28)) ::
oo 30 (.load1 (.t 29)) ::
oo 31 (.int .mul (.t 27) (.t 30)) ::
oo 32 (.int .add (.t 26) (.t 31)) ::
oo 33 (.faddr 0 (.t 9)) ::
oo 34 (.faddr 5 (.t 33)) ::
oz (.store 1 (.t 34) (.t 32)) :: [])) (.seq (.seq (.reg (
 oo 35 (.mv z0) :: [])) (.block 0 (.loop (.seq (.reg (
 oo 36 (.int .lss (.t 35) (.c (Value.int .i64 5))) :: [])) (.seq (.cond (.t 36) .skip (.exit 0)) (.seq (.block 1 (.seq (.reg (
 om 37 35 ::
om 10 37 :: [])) (.dreg (
 om 38 10 ::
om 39 2 ::
om 40 10 ::
oo 41 (.faddr 0 (.t 4)) ::
oo 42 (.faddr 0 (.t 41)) ::
oo 43 (.ixarr 5 1 (.t 42) (.t 40)) ::
oo 44 (.load1 (.t 43)) ::
oo 45 (.int .mul (.t 39) (.t 44)) ::
om 46 3 ::
om 47 10 ::
oo 48 (.faddr 0 (.t 5)) ::
oo 49 (.faddr 0 (.t 48)) ::
oo 50 (.ixarr 5 1 (.t 49) (.t 47)) ::
oo 51 (.load1 (.t 50)) ::
oo 52 (.int .mul (.t 46) (.t 51)) ::
oo 53 (.int .add (.t 45) (.t 52)) ::
oo 54 (.faddr 0 (.t 9)) ::
oo 55 (.faddr 0 (.t 54)) ::
oo 56 (.ixarr 5 1 (.t 55) (.t 38)) ::
oz (.store 1 (.t 56) (.t 53)) :: []) []))) (.reg (
 oo 57 (.int .add (.t 35) z1) ::
om 35 57 :: [])))))))) (.seq (.seq (.reg (
 oo 58 (.mv z0) :: [])) (.block 2 (.loop (.seq (.reg (
 oo 59 (.int .lss (.t 58) (.c (Value.int .i64 8))) :: [])) (.seq (.cond (.t 59) .skip (.exit 2)) (.seq (.block 3 (.seq (.reg (
 om 60 58 ::
om 11 60 :: [])) (.dreg (
 om 61 11 ::
om 62 2 ::
om 63 11 ::
oo 64 (.faddr 6 (.t 4)) ::
oo 65 (.ixarr 8 1 (.t 64) (.t 63)) ::
oo 66 (.load1 (.t 65)) ::
oo 67 (.int .mul (.t 62) (.t 66)) ::
om 68 3 ::
om 69 11 ::
oo 70 (.faddr 6 (.t 5)) ::
oo 71 (.ixarr 8 1 (.t 70) (.t 69)) ::
oo 72 (.load1 (.t 71)) ::
oo 73 (.int .mul (.t 68) (.t 72)) ::
oo 74 (.int .add (.t 67) (.t 73)) ::
oo 75 (.faddr 6 (.t 9)) ::
oo 76 (.ixarr 8 1 (.t 75) (.t 61)) ::
oz (.store 1 (.t 76) (.t 74)) :: []) []))) (.reg (
 oo 77 (.int .add (.t 58) z1) ::
om 58 77 :: [])))))))) (.seq (.reg (
 oo 78 (.loadn 15 (.t 9)) ::
oz (.store 15 (.t 8) (.t 78)) :: [])) .ret))))))
def r144 : List ResultVar := [.cell 8 228]
theorem fun144 : Fun Tryz.prog 144 79 4 a144 r144 :=
  ⟨rfl, Tryz.f144, _, rfl, rfl, rfl, by decide, rfl, rfl, rfl⟩
noncomputable def a146 : ACode := (.seq (.reg (
 oo 2 (.mv z0) :: [])) (.seq (.reg (
 oo 6 (.mv z0) ::
om 3 6 :: [])) (.seq (.seq (.reg (
 om 7 0 ::
oo 8 (.len (.t 7)) ::
oo 9 (.mv z0) :: [])) (.block 0 (.loop (.seq (.reg (
 oo 10 (.int .lss (.t 9) (.t 8)) :: [])) (.seq (.cond (.t 10) .skip (.exit 0)) (.seq (.block 1 (.seq (.reg (
 oo 11 (.ixsl 1 (.t 7) (.t 9)) ::
oo 12 (.load1 (.t 11)) ::
om 5 12 :: [])) (.seq (.reg (
 om 13 5 ::
om 14 5 ::
oo 15 (.neg (.t 14)) ::
oo 16 (.mnmx true (.t 13) (.t 15)) ::
om 5 16 :: [])) (.block 2 (.loop (.seq (.seq (.reg (
 om 17 5 ::
oo 18 (.int .neq (.t 17) z0) :: [])) (.cond (.t 18) .skip (.exit 2))) (.block 3 (.dreg (
 om 19 5 ::
om 20 3 ::
om 21 5 ::
oo 22 (.idiv false (.t 20) (.t 21)) ::
om 3 19 ::
om 5 22 :: []) [])))))))) (.reg (
 oo 23 (.int .add (.t 9) z1) ::
om 9 23 :: [])))))))) (.seq (.reg (
 om 24 3 ::
om 2 24 :: [])) .ret))))
def r146 : List ResultVar := [.tmp 2]
theorem fun146 : Fun Tryz.prog 146 25 1 a146 r146 :=
  ⟨rfl, Tryz.f146, _, rfl, rfl, rfl, by decide, rfl, rfl, rfl⟩
noncomputable def a147 : ACode := (.seq (.reg (
 oo 2 (.box (.t 0) 142) ::
oo 4 (.mv z0) :: [])) (.seq (.block 0 (.seq (.reg (
 om 6 1 ::
oo 7 (.len (.t 6)) ::
oo 8 (.faddr 0 (.t 2)) ::
oo 9 (.load1 (.t 8)) ::
oo 10 (.int .neq (.t 7) (.t 9)) ::
om 5 10 :: [])) (.cond (.t 5) (.seq (.reg (
 oo 4 (.mv (.c (Value.int .i64 15))) :: [])) .ret) (.seq (.reg (
 om 12 1 ::
oc 13 137 [(.c (Value.int .i64 4)), (.t 12)] ::
oo 14 (.not (.t 13)) ::
om 11 14 :: [])) (.cond (.t 11) (.seq (.reg (
 oo 4 (.mv (.c (Value.int .i64 3))) :: [])) .ret) .skip))))) (.seq (.reg (
 oo 4 (.mv z0) :: [])) .ret)))
def r147 : List ResultVar := [.tmp 4]
theorem fun147 : Fun Tryz.prog 147 15 2 a147 r147 :=
  ⟨rfl, Tryz.f147, _, rfl, rfl, rfl, by decide, rfl, rfl, rfl⟩
noncomputable def a148 : ACode := (.seq (.reg (
 oo 2 (.box (.t 0) 142) ::
oo 4 (.mv z0) :: [])) (.seq (.seq (.reg (
 oo 5 (.loadn 2 (.t 2)) ::
oc 6 175 [(.t 5)] ::
oo 7 (.int .neq (.t 6) z0) :: [])) (.cond (.t 7) (.seq (.reg (
 oo 8 (.loadn 2 (.t 2)) ::
oc 9 175 [(.t 8)] ::
om 4 9 :: [])) .ret) .skip)) (.seq (.reg (
 oo 10 (.loadn 2 (.t 2)) ::
om 11 1 ::
oc 12 176 [(.t 10), (.t 11)] ::
om 4 12 :: [])) .ret)))
def r148 : List ResultVar := [.tmp 4]
theorem fun148 : Fun Tryz.prog 148 13 2 a148 r148 :=
  ⟨rfl, Tryz.f148, _, rfl, rfl, rfl, by decide, rfl, rfl, rfl⟩
noncomputable def a149 : ACode := (.seq (.reg (
 oo 4 (.mv (.c (Value.bool false))) :: [])) (.seq (.seq (.reg (
 oo 5 (.mv z0) :: [])) (.block 0 (.loop (.seq (.seq (.reg (
 om 6 5 ::
om 7 0 ::
oo 8 (.len (.t 7)) ::
oo 9 (.int .lss (.t 6) (.t 8)) :: [])) (.cond (.t 9) .skip (.exit 0))) (.seq (.block 1 (.seq (.reg (
 om 12 0 ::
om 13 5 ::
oo 14 (.ixsl 1 (.t 12) (.t 13)) ::
oo 15 (.load1 (.t 14)) ::
om 16 1 ::
oo 17 (.neg (.t 16)) ::
oo 18 (.int .lss (.t 15) (.t 17)) ::
om 19 18 ::
og 20 19 false (.mv (.t 0)) ::
og 21 19 false (.mv (.t 5)) ::
og 22 19 false (.ixsl 1 (.t 20) (.t 21)) ::
og 23 19 false (.load1 (.t 22)) ::
og 24 19 false (.mv (.t 1)) ::
og 25 19 false (.int .gtr (.t 23) (.t 24)) ::
oo 26 (.pick (.t 19) (.c (Value.bool true)) (.t 25)) :: [])) (.cond (.t 26) (.seq (.reg (
 oo 4 (.mv (.c (Value.bool false))) :: [])) .ret) .skip))) (.reg (
 om 10 5 ::
oo 11 (.int .add (.t 10) z1) ::
om 5 11 :: []))))))) (.seq (.reg (
 oo 4 (.mv (.c (Value.bool true))) :: [])) .ret)))
def r149 : List ResultVar := [.tmp 4]
theorem fun149 : Fun Tryz.prog 149 27 2 a149 r149 :=
  ⟨rfl, Tryz.f149, _, rfl, rfl, rfl, by decide, rfl, rfl, rfl⟩
noncomputable def a150 : ACode := (.seq (.reg (
 oo 4 (.mv z0) :: [])) (.seq (.reg (
 oo 5 (.mv z0) :: [])) (.seq (.seq (.reg (
 oo 6 (.mv z0) :: [])) (.block 0 (.loop (.seq (.seq (.reg (
 om 7 6 ::
om 8 0 ::
oo 9 (.len (.t 8)) ::
oo 10 (.int .lss (.t 7) (.t 9)) :: [])) (.cond (.t 10) .skip (.exit 0))) (.seq (.block 1 (.dreg (
 om 13 5 ::
om 14 0 ::
om 15 6 ::
oo 16 (.ixsl 1 (.t 14) (.t 15)) ::
oo 17 (.load1 (.t 16)) ::
om 18 1 ::
om 19 6 ::
oo 20 (.ixsl 1 (.t 18) (.t 19)) ::
oo 21 (.load1 (.t 20)) ::
oo 22 (.int .mul (.t 17) (.t 21)) ::
oo 23 (.int .add (.t 13) (.t 22)) ::
om 5 23 :: []) [])) (.reg (
 om 11 6 ::
oo 12 (.int .add (.t 11) z1) ::
om 6 12 :: []))))))) (.seq (.reg (
 om 24 5 ::
om 4 24 :: [])) .ret))))
def r150 : List ResultVar := [.tmp 4]
theorem fun150 : Fun Tryz.prog 150 25 2 a150 r150 :=
  ⟨rfl, Tryz.f150, _, rfl, rfl, rfl, by decide, rfl, rfl, rfl⟩
noncomputable def a151 : ACode := (.seq (.reg (
 oo 4 (.mv (.c (Value.bool false))) :: [])) (.seq (.reg (
 om 5 0 ::
om 6 1 ::
oc 7 177 [(.t 5), (.t 6)] ::
oo 8 (.int .geq (.t 7) z0) ::
om 4 8 :: [])) .ret))
def r151 : List ResultVar := [.tmp 4]
theorem fun151 : Fun Tryz.prog 151 9 2 a151 r151 :=
  ⟨rfl, Tryz.f151, _, rfl, rfl, rfl, by decide, rfl, rfl, rfl⟩
noncomputable def a152 : ACode := (.seq (.reg (
 oo 3 (.mv (.c (Value.bool false))) :: [])) (.seq (.dreg (
 om 4 0 ::
oc 5 139 [(.t 4)] ::
oo 6 (.load1 (.t 1)) ::
oc 7 138 [(.t 5), (.t 6)] ::
oo 8 (.int .neq (.t 7) z0) ::
om 3 8 :: []) []) .ret))
def r152 : List ResultVar := [.tmp 3]
theorem fun152 : Fun Tryz.prog 152 9 2 a152 r152 :=
  ⟨rfl, Tryz.f152, _, rfl, rfl, rfl, by decide, rfl, rfl, rfl⟩
noncomputable def a153 : ACode := (.seq (.reg (
 oo 4 (.mv z0) :: [])) (.seq (.seq (.reg (
 om 6 0 ::
oo 7 (.len (.t 6)) ::
oo 8 (.mv z0) :: [])) (.block 0 (.loop (.seq (.reg (
 oo 9 (.int .lss (.t 8) (.t 7)) :: [])) (.seq (.cond (.t 9) .skip (.exit 0)) (.seq (.block 1 (.seq (.reg (
 om 10 8 ::
om 5 10 :: [])) (.seq (.reg (
 om 11 1 ::
om 12 0 ::
om 13 5 ::
oo 14 (.ixsl 2 (.t 12) (.t 13)) ::
oo 15 (.loadn 2 (.t 14)) ::
⟨(some 16), none, (.call (.t 11) [(.t 15)])⟩ :: [])) (.cond (.t 16) (.seq (.reg (
 om 17 5 ::
om 4 17 :: [])) .ret) .skip)))) (.reg (
 oo 18 (.int .add (.t 8) z1) ::
om 8 18 :: [])))))))) (.seq (.reg (
 oo 4 (.mv (.c (Value.int .i64 (-1)))) :: [])) .ret)))
def r153 : List ResultVar := [.tmp 4]
theorem fun153 : Fun Tryz.prog 153 19 2 a153 r153 :=
  ⟨rfl, Tryz.f153, _, rfl, rfl, rfl, by decide, rfl, rfl, rfl⟩
noncomputable def a154 : ACode := (.seq (.reg (
 oo 2 (.box (.t 0) 87) ::
oo 3 (.box (.t 1) 3) ::
oo 4 (.mv (.c (Value.nilFunc))) :: [])) (.seq (.reg (
 oo 5 (.mkfn (Fn.func 178) [] [(.t 2), (.t 3)]) ::
om 4 5 :: [])) .ret))
def r154 : List ResultVar := [.tmp 4]
theorem fun154 : Fun Tryz.prog 154 6 2 a154 r154 :=
  ⟨rfl, Tryz.f154, _, rfl, rfl, rfl, by decide, rfl, rfl, rfl⟩
noncomputable def a155 : ACode := (.seq (.reg (
 oo 4 (.mv z0) :: [])) (.seq (.reg (
 oo 8 (.load1 (.t 1)) ::
oo 9 (.loadn 4 (.t 2)) ::
om 10 0 ::
oc 11 104 [(.t 8), (.t 9), (.t 10)] ::
om 7 11 ::
oo 12 (.extract (.t 7) 0) ::
oo 13 (.extract (.t 7) 1) ::
oo 5 (.alloc [k0, k0, k0, k0] 165) ::
oz (.store 4 (.t 5) (.t 12)) ::
om 6 13 :: [])) (.seq (.reg (
 om 14 6 ::
oo 15 (.load1 (.t 1)) ::
oo 16 (.loadn 4 (.t 5)) ::
oc 17 102 [(.t 15), (.t 16)] ::
oo 18 (.int .add (.t 14) (.t 17)) ::
om 4 18 :: [])) .ret)))
def r155 : List ResultVar := [.tmp 4]
theorem fun155 : Fun Tryz.prog 155 19 3 a155 r155 :=
  ⟨rfl, Tryz.f155, _, rfl, rfl, rfl, by decide, rfl, rfl, rfl⟩
noncomputable def a158 : ACode := (.seq (.reg (
 oo 4 (.mv z0) :: [])) (.seq (.seq (.reg (
 om 6 0 ::
oo 7 (.len (.t 6)) ::
oo 8 (.mv z0) :: [])) (.block 0 (.loop (.seq (.reg (
 oo 9 (.int .lss (.t 8) (.t 7)) :: [])) (.seq (.cond (.t 9) .skip (.exit 0)) (.seq (.block 1 (.seq (.reg (
 om 10 8 ::
om 5 10 :: [])) (.seq (.reg (
 om 11 1 ::
om 12 0 ::
om 13 5 ::
oo 14 (.ixsl 1 (.t 12) (.t 13)) ::
oo 15 (.load1 (.t 14)) ::
⟨(some 16), none, (.call (.t 11) [(.t 15)])⟩ :: [])) (.cond (.t 16) (.seq (.reg (
 om 17 5 ::
om 4 17 :: [])) .ret) .skip)))) (.reg (
 oo 18 (.int .add (.t 8) z1) ::
om 8 18 :: [])))))))) (.seq (.reg (
 oo 4 (.mv (.c (Value.int .i64 (-1)))) :: [])) .ret)))
def r158 : List ResultVar := [.tmp 4]
theorem fun158 : Fun Tryz.prog 158 19 2 a158 r158 :=
  ⟨rfl, Tryz.f158, _, rfl, rfl, rfl, by decide, rfl, rfl, rfl⟩
noncomputable def a159 : ACode := (.seq (.reg (
 oo 3 (.box (.t 0) 249) ::
oo 6 (.mv z0) :: [])) (.seq (.seq (.reg (
 om 7 1 ::
oo 8 (.int .gtr (.t 7) z0) ::
om 9 8 ::
og 10 9 true (.mv (.t 1)) ::
og 11 9 true (.mv (.t 2)) ::
og 12 9 true (.int .sub (.t 11) z1) ::
og 13 9 true (.int .lss (.t 10) (.t 12)) ::
oo 14 (.pick (.t 9) (.t 13) (.c (Value.bool false))) :: [])) (.cond (.t 14) (.seq (.reg (
 oo 15 (.ixarr 2 1 (.t 3) z1) ::
oo 16 (.load1 (.t 15)) ::
om 6 16 :: [])) .ret) .skip)) (.seq (.reg (
 oo 17 (.ixarr 2 1 (.t 3) z0) ::
oo 18 (.load1 (.t 17)) ::
om 6 18 :: [])) .ret)))
def r159 : List ResultVar := [.tmp 6]
theorem fun159 : Fun Tryz.prog 159 19 3 a159 r159 :=
  ⟨rfl, Tryz.f159, _, rfl, rfl, rfl, by decide, rfl, rfl, rfl⟩
noncomputable def a160 : ACode := (.seq (.reg (
 oo 8 (.load1 (.t 1)) ::
oo 9 (.nilck (.t 8)) ::
oo 10 (.faddr 0 (.t 9)) ::
oo 11 (.faddr 2 (.t 10)) ::
oo 12 (.load1 (.t 11)) ::
oo 13 (.len (.t 12)) ::
oo 14 (.mv z0) :: [])) (.block 0 (.loop (.seq (.reg (
 oo 15 (.int .lss (.t 14) (.t 13)) :: [])) (.seq (.cond (.t 15) .skip (.exit 0)) (.seq (.block 1 (.seq (.reg (
 om 16 14 ::
oo 17 (.ixsl 1 (.t 12) (.t 14)) ::
oo 18 (.load1 (.t 17)) ::
om 4 16 ::
om 5 18 :: [])) (.seq (.reg (
 om 19 5 ::
oo 20 (.len (.t 19)) ::
oo 21 (.mv z0) :: [])) (.block 2 (.loop (.seq (.reg (
 oo 22 (.int .lss (.t 21) (.t 20)) :: [])) (.seq (.cond (.t 22) .skip (.exit 2)) (.seq (.block 3 (.seq (.reg (
 om 23 21 ::
om 6 23 :: [])) (.seq (.seq (.dreg (
 oo 24 (.load1 (.t 2)) ::
om 25 4 ::
oo 26 (.load1 (.t 1)) ::
oo 27 (.nilck (.t 26)) ::
oo 28 (.faddr 0 (.t 27)) ::
oo 29 (.faddr 2 (.t 28)) ::
oo 30 (.load1 (.t 29)) ::
oo 31 (.len (.t 30)) :: []) []) (.reg (
    ⟨(some 32), none, (.call (.t 24) [(.t 25), (.t 31)])⟩ ::
om 7 32 :: []))) (.seq (.reg (
 om 33 0 ::
om 34 4 ::
om 35 6 ::
om 36 7 ::
oo 37 (.load1 (.t 2)) ::
om 38 6 ::
om 39 5 ::
oo 40 (.len (.t 39)) ::
⟨(some 41), none, (.call (.t 37) [(.t 38), (.t 40)])⟩ ::
oo 42 (.int .mul (.t 36) (.t 41)) ::
om 43 7 ::
om 44 6 ::
om 45 5 ::
oo 46 (.len (.t 45)) ::
oo 47 (.int .sub (.t 46) z1) ::
oo 48 (.int .eql (.t 44) (.t 47)) ::
oo 49 (.build [k0, k0, k0, k0, Value.bool false] [(0, 1, (.t 34)), (1, 1, (.t 35)), (2, 1, (.t 42)), (3, 1, (.t 43)), (4, 1, (.t 48))]) ::
⟨(some 50), none, (.call (.t 33) [(.t 49)])⟩ ::
oo 51 (.not (.t 50)) :: [])) (.cond (.t 51) .ret .skip))))) (.reg (
 oo 52 (.int .add (.t 21) z1) ::
om 21 52 :: [])))))))))) (.reg (
 oo 53 (.int .add (.t 14) z1) ::
om 14 53 :: []))))))))
def r160 : List ResultVar := []
theorem fun160 : Fun Tryz.prog 160 54 3 a160 r160 :=
  ⟨rfl, Tryz.f160, _, rfl, rfl, rfl, by decide, rfl, rfl, rfl⟩
noncomputable def a161 : ACode := (.seq (.reg (
 oo 4 (.mv z0) :: [])) (.seq (.reg (
 oo 5 (.mv z0) :: [])) (.seq .skip (.seq (.seq (.reg (
 oo 8 (.load1 (.t 1)) ::
oo 9 (.len (.t 8)) ::
oo 10 (.mv z0) :: [])) (.block 0 (.loop (.seq (.reg (
 oo 11 (.int .lss (.t 10) (.t 9)) :: [])) (.seq (.cond (.t 11) .skip (.exit 0)) (.seq (.block 1 (.seq (.reg (
 om 12 10 ::
oo 13 (.ixsl 2 (.t 8) (.t 10)) ::
oo 14 (.loadn 2 (.t 13)) ::
oo 7 (.alloc [k0, k0] 36) ::
om 6 12 ::
oz (.store 2 (.t 7) (.t 14)) :: [])) (.seq (.seq (.dreg (
 om 15 0 ::
oo 16 (.loadn 2 (.t 7)) ::
⟨(some 17), none, (.call (.t 15) [(.t 16)])⟩ ::
oo 18 (.load1 (.t 2)) ::
om 19 6 ::
oo 20 (.ixsl 1 (.t 18) (.t 19)) ::
oo 21 (.load1 (.t 20)) ::
oo 22 (.int .gtr (.t 17) (.t 21)) :: []) []) (.cond (.t 22) (.exit 0) .skip)) (.reg (
 om 23 5 ::
oo 24 (.int .add (.t 23) z1) ::
om 5 24 :: []))))) (.reg (
 oo 25 (.int .add (.t 10) z1) ::
om 10 25 :: [])))))))) (.seq (.reg (
 om 26 5 ::
om 4 26 :: [])) .ret)))))
def r161 : List ResultVar := [.tmp 4]
theorem fun161 : Fun Tryz.prog 161 27 3 a161 r161 :=
  ⟨rfl, Tryz.f161, _, rfl, rfl, rfl, by decide, rfl, rfl, rfl⟩
noncomputable def a162 : ACode := (.seq (.reg (
 oo 1 (.box (.t 0) 36) ::
oo 2 (.mv z0) :: [])) (.seq (.reg (
 oo 3 (.faddr 1 (.t 1)) ::
oo 4 (.load1 (.t 3)) ::
om 2 4 :: [])) .ret))
def r162 : List ResultVar := [.tmp 2]
theorem fun162 : Fun Tryz.prog 162 5 1 a162 r162 :=
  ⟨rfl, Tryz.f162, _, rfl, rfl, rfl, by decide, rfl, rfl, rfl⟩
noncomputable def a163 : ACode := (.seq (.reg (
 oo 1 (.box (.t 0) 36) ::
oo 2 (.mv z0) :: [])) (.seq (.reg (
 oo 3 (.faddr 0 (.t 1)) ::
oo 4 (.load1 (.t 3)) ::
om 2 4 :: [])) .ret))
def r163 : List ResultVar := [.tmp 2]
theorem fun163 : Fun Tryz.prog 163 5 1 a163 r163 :=
  ⟨rfl, Tryz.f163, _, rfl, rfl, rfl, by decide, rfl, rfl, rfl⟩
noncomputable def a164 : ACode := (.seq (.reg (
 oo 4 (.mv z0) ::
oo 5 (.mv (.c (Value.bool false))) :: [])) (.seq (.reg (
 om 10 0 ::
oo 11 (.len (.t 10)) ::
om 6 11 :: [])) (.seq (.reg (
 om 12 6 ::
oo 7 (.mv z0) ::
om 8 12 :: [])) (.seq (.block 0 (.loop (.seq (.seq (.reg (
 om 13 7 ::
om 14 8 ::
oo 15 (.int .lss (.t 13) (.t 14)) :: [])) (.cond (.t 15) .skip (.exit 0))) (.block 1 (.seq (.reg (
 om 16 7 ::
om 17 8 ::
oo 18 (.int .add (.t 16) (.t 17)) ::
oo 19 (.conv .u64 (.t 18)) ::
oo 20 (.pure (rawOp Tryz.f164 4 4)) ::
oo 21 (.conv .i64 (.t 20)) ::
om 9 21 :: [])) (.seq (.reg (
 om 22 0 ::
om 23 9 ::
oo 24 (.ixsl 1 (.t 22) (.t 23)) ::
oo 25 (.load1 (.t 24)) ::
om 26 1 ::
oc 27 179 [(.t 25), (.t 26)] :: [])) (.cond (.t 27) (.reg (
 om 28 9 ::
oo 29 (.int .add (.t 28) z1) ::
om 7 29 :: [])) (.reg (
 om 30 9 ::
om 8 30 :: []))))))))) (.seq (.reg (
 om 31 7 ::
om 32 7 ::
om 33 6 ::
oo 34 (.int .lss (.t 32) (.t 33)) ::
om 35 34 ::
og 36 35 true (.mv (.t 0)) ::
og 37 35 true (.mv (.t 7)) ::
og 38 35 true (.ixsl 1 (.t 36) (.t 37)) ::
og 39 35 true (.load1 (.t 38)) ::
og 40 35 true (.mv (.t 1)) ::
og 41 35 true (.int .eql (.t 39) (.t 40)) ::
og 42 35 true (.mv (.t 41)) ::
og 43 42 false (.mv (.t 0)) ::
og 44 42 false (.mv (.t 7)) ::
og 45 42 false (.ixsl 1 (.t 43) (.t 44)) ::
og 46 42 false (.load1 (.t 45)) ::
ocg 47 42 false 180 [(.t 46)] ::
og 48 42 false (.mv (.t 47)) ::
og 49 48 true (.mv (.t 1)) ::
ocg 50 48 true 180 [(.t 49)] ::
og 51 42 false (.pick (.t 48) (.t 50) (.c (Value.bool false))) ::
og 52 35 true (.pick (.t 42) (.c (Value.bool true)) (.t 51)) ::
oo 53 (.pick (.t 35) (.t 52) (.c (Value.bool false))) ::
om 4 31 ::
om 5 53 :: [])) .ret)))))
def r164 : List ResultVar := [.tmp 4, .tmp 5]
theorem fun164 : Fun Tryz.prog 164 54 2 a164 r164 :=
  ⟨rfl, Tryz.f164, _, rfl, rfl, rfl, by decide, rfl, rfl, rfl⟩
noncomputable def a165 : ACode := (.seq (.reg (
 oo 4 (.mv z0) :: [])) (.seq (.seq (.reg (
 om 6 0 ::
oo 7 (.len (.t 6)) ::
oo 8 (.mv z0) :: [])) (.block 0 (.loop (.seq (.reg (
 oo 9 (.int .lss (.t 8) (.t 7)) :: [])) (.seq (.cond (.t 9) .skip (.exit 0)) (.seq (.block 1 (.seq (.reg (
 om 10 8 ::
om 5 10 :: [])) (.seq (.reg (
 om 11 1 ::
om 12 0 ::
om 13 5 ::
oo 14 (.ixsl 1 (.t 12) (.t 13)) ::
oo 15 (.load1 (.t 14)) ::
⟨(some 16), none, (.call (.t 11) [(.t 15)])⟩ :: [])) (.cond (.t 16) (.seq (.reg (
 om 17 5 ::
om 4 17 :: [])) .ret) .skip)))) (.reg (
 oo 18 (.int .add (.t 8) z1) ::
om 8 18 :: [])))))))) (.seq (.reg (
 oo 4 (.mv (.c (Value.int .i64 (-1)))) :: [])) .ret)))
def r165 : List ResultVar := [.tmp 4]
theorem fun165 : Fun Tryz.prog 165 19 2 a165 r165 :=
  ⟨rfl, Tryz.f165, _, rfl, rfl, rfl, by decide, rfl, rfl, rfl⟩
noncomputable def a166 : ACode := (.seq (.reg (
 oo 4 (.mv z0) :: [])) (.seq (.seq (.reg (
 om 6 0 ::
oo 7 (.len (.t 6)) ::
oo 8 (.mv z0) :: [])) (.block 0 (.loop (.seq (.reg (
 oo 9 (.int .lss (.t 8) (.t 7)) :: [])) (.seq (.cond (.t 9) .skip (.exit 0)) (.seq (.block 1 (.seq (.reg (
 om 10 8 ::
om 5 10 :: [])) (.seq (.reg (
 om 11 1 ::
om 12 0 ::
om 13 5 ::
oo 14 (.ixsl 2 (.t 12) (.t 13)) ::
oo 15 (.loadn 2 (.t 14)) ::
⟨(some 16), none, (.call (.t 11) [(.t 15)])⟩ :: [])) (.cond (.t 16) (.seq (.reg (
 om 17 5 ::
om 4 17 :: [])) .ret) .skip)))) (.reg (
 oo 18 (.int .add (.t 8) z1) ::
om 8 18 :: [])))))))) (.seq (.reg (
 oo 4 (.mv (.c (Value.int .i64 (-1)))) :: [])) .ret)))
def r166 : List ResultVar := [.tmp 4]
theorem fun166 : Fun Tryz.prog 166 19 2 a166 r166 :=
  ⟨rfl, Tryz.f166, _, rfl, rfl, rfl, by decide, rfl, rfl, rfl⟩
noncomputable def a167 : ACode := (.seq (.reg (
 oo 5 (.load1 (.t 1)) ::
oo 6 (.len (.t 5)) ::
oo 7 (.mv z0) :: [])) (.block 0 (.loop (.seq (.reg (
 oo 8 (.int .lss (.t 7) (.t 6)) :: [])) (.seq (.cond (.t 8) .skip (.exit 0)) (.seq (.block 1 (.seq (.reg (
 oo 9 (.ixsl 4 (.t 5) (.t 7)) ::
oo 10 (.loadn 4 (.t 9)) ::
oo 4 (.alloc [k0, k0, k0, k0] 126) ::
oz (.store 4 (.t 4) (.t 10)) :: [])) (.seq (.reg (
 om 11 0 ::
oo 12 (.loadn 4 (.t 4)) ::
⟨(some 13), none, (.call (.t 11) [(.t 12)])⟩ ::
oo 14 (.not (.t 13)) :: [])) (.cond (.t 14) .ret .skip)))) (.reg (
 oo 15 (.int .add (.t 7) z1) ::
om 7 15 :: []))))))))
def r167 : List ResultVar := []
theorem fun167 : Fun Tryz.prog 167 16 2 a167 r167 :=
  ⟨rfl, Tryz.f167, _, rfl, rfl, rfl, by decide, rfl, rfl, rfl⟩
noncomputable def a168 : ACode := (.seq (.reg (
 oo 3 (.mv (.c (Value.bool false))) :: [])) (.seq (.reg (
 om 4 0 ::
oo 5 (.len (.t 4)) ::
oo 6 (.faddr 0 (.t 1)) ::
oo 7 (.load1 (.t 6)) ::
oo 8 (.int .neq (.t 5) (.t 7)) ::
om 3 8 :: [])) .ret))
def r168 : List ResultVar := [.tmp 3]
theorem fun168 : Fun Tryz.prog 168 9 2 a168 r168 :=
  ⟨rfl, Tryz.f168, _, rfl, rfl, rfl, by decide, rfl, rfl, rfl⟩
noncomputable def a169 : ACode := (.seq (.reg (
 oo 2 (.mv (.c (Value.bool false))) :: [])) (.seq (.reg (
 om 3 0 ::
oc 4 137 [(.c (Value.int .i64 4)), (.t 3)] ::
oo 5 (.not (.t 4)) ::
om 2 5 :: [])) .ret))
def r169 : List ResultVar := [.tmp 2]
theorem fun169 : Fun Tryz.prog 169 6 1 a169 r169 :=
  ⟨rfl, Tryz.f169, _, rfl, rfl, rfl, by decide, rfl, rfl, rfl⟩
noncomputable def a170 : ACode := (.seq (.reg (
 oo 3 (.mv (.c (Value.bool false))) :: [])) (.seq (.reg (
 om 4 0 ::
oo 5 (.load1 (.t 1)) ::
oo 6 (.neg (.t 5)) ::
oo 7 (.int .lss (.t 4) (.t 6)) ::
om 8 7 ::
og 9 8 false (.mv (.t 0)) ::
og 10 8 false (.load1 (.t 1)) ::
og 11 8 false (.int .gtr (.t 9) (.t 10)) ::
oo 12 (.pick (.t 8) (.c (Value.bool true)) (.t 11)) ::
om 3 12 :: [])) .ret))
def r170 : List ResultVar := [.tmp 3]
theorem fun170 : Fun Tryz.prog 170 13 2 a170 r170 :=
  ⟨rfl, Tryz.f170, _, rfl, rfl, rfl, by decide, rfl, rfl, rfl⟩
noncomputable def a172 : ACode := (.seq (.reg (
 oo 1 (.box (.t 0) 228) ::
oo 2 (.alloc [k0, k0, k0, k0, k0, k0, k0, k0, k0, k0, k0, k0, k0, k0, k0] 228) :: [])) (.seq (.dreg (
 oo 7 (.faddr 0 (.t 1)) ::
oo 8 (.faddr 0 (.t 7)) ::
oo 9 (.slarr 5 1 (.t 8) none (some (.c (Value.int .i64 5))) (some (.c (Value.int .i64 5)))) ::
oo 10 (.faddr 6 (.t 1)) ::
oo 11 (.slarr 8 1 (.t 10) none none none) ::
oo 12 (.append 2 1 8 (.t 9) (.t 11)) ::
oo 13 (.faddr 0 (.t 1)) ::
oo 14 (.faddr 5 (.t 13)) ::
oo 15 (.load1 (.t 14)) ::
oo 16 (.faddr 14 (.t 1)) ::
oo 17 (.load1 (.t 16)) ::
oo 18 (.bslice [k0, k0] [(0, 1, (.t 15)), (1, 1, (.t 17))] 2 2) ::
oo 19 (.append 2 1 8 (.t 12) (.t 18)) ::
om 3 19 :: []) []) (.seq (.reg (
 om 20 3 ::
oc 21 146 [(.t 20)] ::
om 4 21 :: [])) (.seq (.seq (.reg (
 om 22 4 ::
oo 23 (.int .lss (.t 22) (.c (Value.int .i64 2))) :: [])) (.cond (.t 23) (.seq (.reg (
 oo 24 (.loadn 15 (.t 1)) ::
oz (.store 15 (.t 2) (.t 24)) :: [])) .ret) .skip)) (.seq (.reg (
 oo 25 (.faddr 0 (.t 1)) ::
oo 26 (.faddr 5 (.t 25)) ::
oo 27 (.load1 (.t 26)) ::
om 28 4 ::
oo 29 (.idiv true (.t 27) (.t 28)) ::
oo 30 (.faddr 0 (.t 1)) ::
oo 31 (.faddr 5 (.t 30)) ::
oz (.store 1 (.t 31) (.t 29)) :: [])) (.seq (.reg (
 oo 32 (.faddr 14 (.t 1)) ::
oo 33 (.load1 (.t 32)) ::
om 34 4 ::
oo 35 (.idiv true (.t 33) (.t 34)) ::
oo 36 (.faddr 14 (.t 1)) ::
oz (.store 1 (.t 36) (.t 35)) :: [])) (.seq (.seq (.reg (
 oo 37 (.mv z0) :: [])) (.block 0 (.loop (.seq (.reg (
 oo 38 (.int .lss (.t 37) (.c (Value.int .i64 5))) :: [])) (.seq (.cond (.t 38) .skip (.exit 0)) (.seq (.block 1 (.seq (.reg (
 om 39 37 ::
om 5 39 :: [])) (.reg (
 om 40 5 ::
oo 41 (.faddr 0 (.t 1)) ::
oo 42 (.faddr 0 (.t 41)) ::
oo 43 (.ixarr 5 1 (.t 42) (.t 40)) ::
oo 44 (.load1 (.t 43)) ::
om 45 4 ::
oo 46 (.idiv true (.t 44) (.t 45)) ::
oo 47 (.faddr 0 (.t 1)) ::
oo 48 (.faddr 0 (.t 47)) ::
oo 49 (.ixarr 5 1 (.t 48) (.t 40)) ::
oz (.store 1 (.t 49) (.t 46)) :: [])))) (.reg (
 oo 50 (.int .add (.t 37) z1) ::
om 37 50 :: [])))))))) (.seq (.seq (.reg (
 oo 51 (.mv z0) :: [])) (.block 2 (.loop (.seq (.reg (
 oo 52 (.int .lss (.t 51) (.c (Value.int .i64 8))) :: [])) (.seq (.cond (.t 52) .skip (.exit 2)) (.seq (.block 3 (.seq (.reg (
 om 53 51 ::
om 6 53 :: [])) (.reg (
 om 54 6 ::
oo 55 (.faddr 6 (.t 1)) ::
oo 56 (.ixarr 8 1 (.t 55) (.t 54)) ::
oo 57 (.load1 (.t 56)) ::
om 58 4 ::
oo 59 (.idiv true (.t 57) (.t 58)) ::
oo 60 (.faddr 6 (.t 1)) ::
oo 61 (.ixarr 8 1 (.t 60) (.t 54)) ::
oz (.store 1 (.t 61) (.t 59)) :: [])))) (.reg (
 oo 62 (.int .add (.t 51) z1) ::
om 51 62 :: [])))))))) (.seq (.reg (
 oo 63 (.loadn 15 (.t 1)) ::
oz (.store 15 (.t 2) (.t 63)) :: [])) .ret)))))))))
def r172 : List ResultVar := [.cell 2 228]
theorem fun172 : Fun Tryz.prog 172 64 1 a172 r172 :=
  ⟨rfl, Tryz.f172, _, rfl, rfl, rfl, by decide, rfl, rfl, rfl⟩
noncomputable def a173 : ACode := (.seq (.reg (
 oo 1 (.box (.t 0) 228) ::
oo 2 (.mv z0) :: [])) (.seq (.reg (
 oo 3 (.mv (.c (Value.int .i64 (-1)))) :: [])) (.seq .skip (.seq (.seq (.reg (
 oo 6 (.faddr 0 (.t 1)) ::
oo 7 (.faddr 0 (.t 6)) ::
oo 8 (.loadn 5 (.t 7)) ::
oo 9 (.mv z0) :: [])) (.block 0 (.loop (.seq (.reg (
 oo 10 (.int .lss (.t 9) (.c (Value.int .i64 5))) :: [])) (.seq (.cond (.t 10) .skip (.exit 0)) (.seq (.block 1 (.seq (.reg (
 om 11 9 ::
oo 12 (.ixv1 5 (.t 8) (.t 9)) ::
om 4 11 ::
om 5 12 :: [])) (.seq (.reg (
 om 13 5 ::
oo 14 (.int .neq (.t 13) z0) :: [])) (.cond (.t 14) (.seq (.reg (
 om 15 4 ::
om 3 15 :: [])) (.exit 0)) .skip)))) (.reg (
 oo 16 (.int .add (.t 9) z1) ::
om 9 16 :: [])))))))) (.seq (.reg (
 om 17 3 ::
om 2 17 :: [])) .ret)))))
def r173 : List ResultVar := [.tmp 2]
theorem fun173 : Fun Tryz.prog 173 18 1 a173 r173 :=
  ⟨rfl, Tryz.f173, _, rfl, rfl, rfl, by decide, rfl, rfl, rfl⟩
noncomputable def a175 : ACode := (.seq (.reg (
 oo 1 (.box (.t 0) 142) ::
oo 2 (.mv z0) :: [])) (.seq (.seq (.reg (
 oo 5 (.faddr 1 (.t 1)) ::
oo 6 (.load1 (.t 5)) ::
oo 7 (.len (.t 6)) ::
oo 8 (.int .gtr (.t 7) (.c (Value.int .i64 8))) :: [])) (.cond (.t 8) (.seq (.reg (
 oo 2 (.mv (.c (Value.int .i64 6))) :: [])) .ret) .skip)) (.seq (.seq (.reg (
 oo 9 (.faddr 0 (.t 1)) ::
oo 10 (.load1 (.t 9)) ::
oo 11 (.int .lss (.t 10) z1) ::
om 12 11 ::
og 13 12 false (.faddr 0 (.t 1)) ::
og 14 12 false (.load1 (.t 13)) ::
og 15 12 false (.int .gtr (.t 14) (.c (Value.int .i64 5))) ::
oo 16 (.pick (.t 12) (.c (Value.bool true)) (.t 15)) :: [])) (.cond (.t 16) (.seq (.reg (
 oo 2 (.mv (.c (Value.int .i64 2))) :: [])) .ret) .skip)) (.seq (.seq (.reg (
 oo 3 (.mv z0) :: [])) (.block 0 (.loop (.seq (.seq (.reg (
 om 17 3 ::
oo 18 (.faddr 1 (.t 1)) ::
oo 19 (.load1 (.t 18)) ::
oo 20 (.len (.t 19)) ::
oo 21 (.int .lss (.t 17) (.t 20)) :: [])) (.cond (.t 21) .skip (.exit 0))) (.seq (.block 1 (.seq (.dreg (
 oo 24 (.faddr 1 (.t 1)) ::
oo 25 (.load1 (.t 24)) ::
om 26 3 ::
oo 27 (.ixsl 1 (.t 25) (.t 26)) ::
oo 28 (.load1 (.t 27)) ::
oo 29 (.len (.t 28)) ::
oo 30 (.faddr 0 (.t 1)) ::
oo 31 (.load1 (.t 30)) ::
oo 32 (.int .neq (.t 29) (.t 31)) :: []) []) (.cond (.t 32) (.seq (.reg (
 oo 2 (.mv (.c (Value.int .i64 15))) :: [])) .ret) .skip))) (.reg (
 om 22 3 ::
oo 23 (.int .add (.t 22) z1) ::
om 3 23 :: []))))))) (.seq (.seq (.reg (
 oo 4 (.mv z0) :: [])) (.block 2 (.loop (.seq (.seq (.reg (
 om 33 4 ::
oo 34 (.faddr 1 (.t 1)) ::
oo 35 (.load1 (.t 34)) ::
oo 36 (.len (.t 35)) ::
oo 37 (.int .lss (.t 33) (.t 36)) :: [])) (.cond (.t 37) .skip (.exit 2))) (.seq (.block 3 (.seq (.reg (
 oo 40 (.faddr 1 (.t 1)) ::
oo 41 (.load1 (.t 40)) ::
om 42 4 ::
oo 43 (.ixsl 1 (.t 41) (.t 42)) ::
oo 44 (.load1 (.t 43)) ::
oc 45 149 [(.t 44), (.c (Value.int .i64 4))] ::
oo 46 (.not (.t 45)) :: [])) (.cond (.t 46) (.seq (.reg (
 oo 2 (.mv (.c (Value.int .i64 3))) :: [])) .ret) .skip))) (.reg (
 om 38 4 ::
oo 39 (.int .add (.t 38) z1) ::
om 4 39 :: []))))))) (.seq (.reg (
 oo 2 (.mv z0) :: [])) .ret))))))
def r175 : List ResultVar := [.tmp 2]
theorem fun175 : Fun Tryz.prog 175 47 1 a175 r175 :=
  ⟨rfl, Tryz.f175, _, rfl, rfl, rfl, by decide, rfl, rfl, rfl⟩
noncomputable def a176 : ACode := (.seq (.reg (
 oo 2 (.box (.t 0) 142) ::
oo 4 (.mv z0) :: [])) (.seq (.seq (.reg (
 om 5 1 ::
oo 6 (.len (.t 5)) ::
oo 7 (.faddr 0 (.t 2)) ::
oo 8 (.load1 (.t 7)) ::
oo 9 (.int .neq (.t 6) (.t 8)) :: [])) (.cond (.t 9) (.seq (.reg (
 oo 4 (.mv (.c (Value.int .i64 15))) :: [])) .ret) .skip)) (.seq (.seq (.reg (
 om 10 1 ::
oc 11 149 [(.t 10), (.c (Value.int .i64 4))] ::
oo 12 (.not (.t 11)) :: [])) (.cond (.t 12) (.seq (.reg (
 oo 4 (.mv (.c (Value.int .i64 3))) :: [])) .ret) .skip)) (.seq (.reg (
 oo 4 (.mv z0) :: [])) .ret))))
def r176 : List ResultVar := [.tmp 4]
theorem fun176 : Fun Tryz.prog 176 13 2 a176 r176 :=
  ⟨rfl, Tryz.f176, _, rfl, rfl, rfl, by decide, rfl, rfl, rfl⟩
noncomputable def a177 : ACode := (.seq (.reg (
 oo 4 (.mv z0) :: [])) (.seq (.seq (.reg (
 om 6 0 ::
oo 7 (.len (.t 6)) ::
oo 8 (.mv z0) :: [])) (.block 0 (.loop (.seq (.reg (
 oo 9 (.int .lss (.t 8) (.t 7)) :: [])) (.seq (.cond (.t 9) .skip (.exit 0)) (.seq (.block 1 (.seq (.reg (
 om 10 8 ::
om 5 10 :: [])) (.seq (.reg (
 om 11 1 ::
om 12 0 ::
om 13 5 ::
oo 14 (.ixsl 1 (.t 12) (.t 13)) ::
oo 15 (.load1 (.t 14)) ::
⟨(some 16), none, (.call (.t 11) [(.t 15)])⟩ :: [])) (.cond (.t 16) (.seq (.reg (
 om 17 5 ::
om 4 17 :: [])) .ret) .skip)))) (.reg (
 oo 18 (.int .add (.t 8) z1) ::
om 8 18 :: [])))))))) (.seq (.reg (
 oo 4 (.mv (.c (Value.int .i64 (-1)))) :: [])) .ret)))
def r177 : List ResultVar := [.tmp 4]
theorem fun177 : Fun Tryz.prog 177 19 2 a177 r177 :=
  ⟨rfl, Tryz.f177, _, rfl, rfl, rfl, by decide, rfl, rfl, rfl⟩
noncomputable def a178 : ACode := (.seq (.reg (
 oo 7 (.load1 (.t 1)) ::
oo 8 (.load1 (.t 2)) ::
oo 9 (.int .sub (.t 8) z1) ::
oc 10 99 [(.t 7), (.t 9)] ::
oo 11 (.mv z0) :: [])) (.block 0 (.loop (.seq (.reg (
 oo 12 (.int .lss (.t 11) (.t 10)) :: [])) (.seq (.cond (.t 12) .skip (.exit 0)) (.seq (.block 1 (.seq (.reg (
 om 13 11 ::
om 4 13 :: [])) (.seq (.reg (
 oo 14 (.load1 (.t 1)) ::
oo 15 (.load1 (.t 2)) ::
oc 16 99 [(.t 14), (.t 15)] ::
oo 17 (.mv z0) :: [])) (.block 2 (.loop (.seq (.reg (
 oo 18 (.int .lss (.t 17) (.t 16)) :: [])) (.seq (.cond (.t 18) .skip (.exit 2)) (.seq (.block 3 (.seq (.reg (
 om 19 17 ::
om 5 19 :: [])) (.seq (.reg (
 oo 20 (.mv z0) :: [])) (.block 4 (.loop (.seq (.reg (
 oo 21 (.int .lss (.t 20) (.c (Value.int .i64 3))) :: [])) (.seq (.cond (.t 21) .skip (.exit 4)) (.seq (.block 5 (.seq (.reg (
 om 22 20 ::
om 6 22 :: [])) (.seq (.reg (
 om 23 0 ::
oo 24 (.load1 (.t 2)) ::
om 25 4 ::
om 26 5 ::
om 27 6 ::
oo 28 (.build [k0] [(0, 1, (.t 27))]) ::
oo 29 (.build [k0, k0, k0, k0] [(0, 1, (.t 24)), (1, 1, (.t 25)), (2, 1, (.t 26)), (3, 1, (.t 28))]) ::
⟨(some 30), none, (.call (.t 23) [(.t 29)])⟩ ::
oo 31 (.not (.t 30)) :: [])) (.cond (.t 31) .ret .skip)))) (.reg (
 oo 32 (.int .add (.t 20) z1) ::
om 20 32 :: [])))))))))) (.reg (
 oo 33 (.int .add (.t 17) z1) ::
om 17 33 :: [])))))))))) (.reg (
 oo 34 (.int .add (.t 11) z1) ::
om 11 34 :: []))))))))
def r178 : List ResultVar := []
theorem fun178 : Fun Tryz.prog 178 35 3 a178 r178 :=
  ⟨rfl, Tryz.f178, _, rfl, rfl, rfl, by decide, rfl, rfl, rfl⟩
noncomputable def a179 : ACode := (.seq (.reg (
 oo 4 (.mv (.c (Value.bool false))) :: [])) (.seq (.reg (
 om 5 0 ::
oc 6 181 [(.t 5)] ::
om 7 6 ::
og 8 7 true (.mv (.t 1)) ::
ocg 9 7 true 181 [(.t 8)] ::
og 10 7 true (.not (.t 9)) ::
oo 11 (.pick (.t 7) (.t 10) (.c (Value.bool false))) ::
om 12 11 ::
og 13 12 false (.mv (.t 0)) ::
og 14 12 false (.mv (.t 1)) ::
og 15 12 false (.int .lss (.t 13) (.t 14)) ::
oo 16 (.pick (.t 12) (.c (Value.bool true)) (.t 15)) ::
om 4 16 :: [])) .ret))
def r179 : List ResultVar := [.tmp 4]
theorem fun179 : Fun Tryz.prog 179 17 2 a179 r179 :=
  ⟨rfl, Tryz.f179, _, rfl, rfl, rfl, by decide, rfl, rfl, rfl⟩
noncomputable def a180 : ACode := (.seq (.reg (
 oo 2 (.mv (.c (Value.bool false))) :: [])) (.seq (.reg (
 om 3 0 ::
om 4 0 ::
oo 5 (.int .neq (.t 3) (.t 4)) ::
om 2 5 :: [])) .ret))
def r180 : List ResultVar := [.tmp 2]
theorem fun180 : Fun Tryz.prog 180 6 1 a180 r180 :=
  ⟨rfl, Tryz.f180, _, rfl, rfl, rfl, by decide, rfl, rfl, rfl⟩
noncomputable def a181 : ACode := (.seq (.reg (
 oo 2 (.mv (.c (Value.bool false))) :: [])) (.seq (.reg (
 om 3 0 ::
om 4 0 ::
oo 5 (.int .neq (.t 3) (.t 4)) ::
om 2 5 :: [])) .ret))
def r181 : List ResultVar := [.tmp 2]
theorem fun181 : Fun Tryz.prog 181 6 1 a181 r181 :=
  ⟨rfl, Tryz.f181, _, rfl, rfl, rfl, by decide, rfl, rfl, rfl⟩
end AE.Tryz
