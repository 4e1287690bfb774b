/- Made by gen3.py: the code of the functions, compiled for the evaluator; each is that of the program, by evaluation. -/
import Derived.Test.YtcminnjimlopbaaGreatDoorProg
import Derived.Test.YtcminnjimlopbaaGreatDoorAEtwo
set_option linter.unusedVariables false
set_option linter.unusedSimpArgs false
set_option linter.unusedSectionVars false
namespace AE.Tryz
open Go AE Go.Proofs
set_option maxRecDepth 1000000
set_option maxHeartbeats 4000000
abbrev oo (d : Nat) (x : AOp) : AOper := ⟨some d, none, .op x⟩
abbrev og (d g : Nat) (b : Bool) (x : AOp) : AOper := ⟨some d, some (g, b), .op x⟩
abbrev oz (x : AOp) : AOper := ⟨none, none, .op x⟩
abbrev oc (d f : Nat) (l : List Opd) : AOper := ⟨some d, none, .call (.c (Value.func (.func f) #[] #[])) l⟩
abbrev ocg (d g : Nat) (b : Bool) (f : Nat) (l : List Opd) : AOper := ⟨some d, some (g, b), .call (.c (Value.func (.func f) #[] #[])) l⟩
abbrev om (d s : Nat) : AOper := ⟨some d, none, .op (.mv (.t s))⟩
abbrev z0 : Opd := .c (Value.int .i64 0)
abbrev z1 : Opd := .c (Value.int .i64 1)
abbrev k0 : Value := .int .i64 0
noncomputable def a4 : ACode := (.seq (.reg (
 oo 3 (.box (.t 0) 38) ::
oo 6 (.mv (.c (Value.bool false))) :: [])) (.seq (.seq (.reg (
 om 19 1 ::
oo 20 (.len (.t 19)) ::
oo 21 (.int .gtr (.t 20) (.c (Value.int .i64 70))) :: [])) (.cond (.t 21) (.seq (.reg (
 oc 22 12 [] ::
om 6 22 :: [])) .ret) .skip)) (.seq (.reg (
 oo 24 (.loadn 4 (.t 3)) ::
oc 25 21 [(.t 24)] ::
om 23 25 ::
oo 26 (.extract (.t 23) 0) ::
oo 27 (.extract (.t 23) 1) ::
om 7 26 ::
om 8 27 :: [])) (.seq (.reg (
 oo 29 (.loadn 4 (.t 3)) ::
oc 30 22 [(.t 29)] ::
om 28 30 ::
oo 31 (.extract (.t 28) 0) ::
oo 32 (.extract (.t 28) 1) ::
om 9 31 ::
om 10 32 :: [])) (.seq (.reg (
 om 34 1 ::
oc 35 23 [(.t 34)] ::
om 33 35 ::
oo 36 (.extract (.t 33) 0) ::
oo 37 (.extract (.t 33) 1) ::
om 11 36 ::
om 12 37 :: [])) (.seq (.reg (
 om 39 1 ::
oc 40 24 [(.t 39)] ::
om 38 40 ::
oo 41 (.extract (.t 38) 0) ::
oo 42 (.extract (.t 38) 1) ::
om 13 41 ::
om 14 42 :: [])) (.seq (.reg (
 om 44 1 ::
om 45 2 ::
oc 46 25 [(.t 44), (.t 45)] ::
om 43 46 ::
oo 47 (.extract (.t 43) 0) ::
oo 48 (.extract (.t 43) 1) ::
oo 15 (.alloc [k0, k0, Value.slice none 0 0] 45) ::
oz (.store 3 (.t 15) (.t 47)) ::
om 16 48 :: [])) (.seq (.reg (
 om 50 1 ::
om 51 2 ::
oc 52 26 [(.t 50), (.t 51)] ::
om 49 52 ::
oo 53 (.extract (.t 49) 0) ::
oo 54 (.extract (.t 49) 1) ::
oo 17 (.alloc [k0, k0, Value.slice none 0 0] 45) ::
oz (.store 3 (.t 17) (.t 53)) ::
om 18 54 :: [])) (.seq (.reg (
 om 55 7 ::
om 56 9 ::
oo 57 (.pure (rawOp Tryz.f4 9 2)) ::
om 58 57 ::
og 59 58 true (.mv (.t 8)) ::
og 60 58 true (.mv (.t 10)) ::
og 61 58 true (.int .eql (.t 59) (.t 60)) ::
oo 62 (.pick (.t 58) (.t 61) (.c (Value.bool false))) ::
om 63 62 ::
og 64 63 true (.mv (.t 11)) ::
og 65 63 true (.mv (.t 13)) ::
og 66 63 true (.int .eql (.t 64) (.t 65)) ::
oo 67 (.pick (.t 63) (.t 66) (.c (Value.bool false))) ::
om 68 67 ::
og 69 68 true (.mv (.t 12)) ::
og 70 68 true (.mv (.t 14)) ::
og 71 68 true (.int .eql (.t 69) (.t 70)) ::
oo 72 (.pick (.t 68) (.t 71) (.c (Value.bool false))) ::
om 73 72 ::
og 74 73 true (.faddr 0 (.t 15)) ::
og 75 73 true (.load1 (.t 74)) ::
og 76 73 true (.faddr 0 (.t 17)) ::
og 77 73 true (.load1 (.t 76)) ::
og 78 73 true (.int .eql (.t 75) (.t 77)) ::
oo 79 (.pick (.t 73) (.t 78) (.c (Value.bool false))) ::
om 80 79 ::
og 81 80 true (.faddr 1 (.t 15)) ::
og 82 80 true (.load1 (.t 81)) ::
og 83 80 true (.faddr 1 (.t 17)) ::
og 84 80 true (.load1 (.t 83)) ::
og 85 80 true (.int .eql (.t 82) (.t 84)) ::
oo 86 (.pick (.t 80) (.t 85) (.c (Value.bool false))) ::
om 87 86 ::
og 88 87 true (.faddr 2 (.t 15)) ::
og 89 87 true (.load1 (.t 88)) ::
og 90 87 true (.faddr 2 (.t 17)) ::
og 91 87 true (.load1 (.t 90)) ::
ocg 92 87 true 27 [(.t 89), (.t 91)] ::
oo 93 (.pick (.t 87) (.t 92) (.c (Value.bool false))) ::
om 94 93 ::
og 95 94 true (.mv (.t 16)) ::
og 96 94 true (.mv (.t 18)) ::
og 97 94 true (.int .eql (.t 95) (.t 96)) ::
oo 98 (.pick (.t 94) (.t 97) (.c (Value.bool false))) ::
om 99 98 ::
ocg 100 99 true 12 [] ::
oo 101 (.pick (.t 99) (.t 100) (.c (Value.bool false))) ::
om 6 101 :: [])) .ret)))))))))
def r4 : List ResultVar := [.tmp 6]
theorem fun4 : Fun Tryz.prog 4 102 3 a4 r4 :=
  ⟨rfl, Tryz.f4, _, rfl, rfl, rfl, by decide, rfl, rfl, rfl⟩
noncomputable def a5 : ACode := (.seq (.reg (
 oo 4 (.box (.t 1) 38) ::
oo 5 (.box (.t 2) 45) ::
oo 6 (.mv (.c (Value.bool false))) :: [])) (.seq (.seq (.reg (
 oo 7 (.faddr 2 (.t 5)) ::
oo 8 (.load1 (.t 7)) ::
oo 9 (.len (.t 8)) ::
oo 10 (.int .gtr (.t 9) (.c (Value.int .i64 20))) :: [])) (.cond (.t 10) (.seq (.reg (
 oc 11 12 [] ::
om 6 11 :: [])) .ret) .skip)) (.seq (.dreg (
 om 12 0 ::
oo 13 (.loadn 4 (.t 4)) ::
oo 14 (.loadn 3 (.t 5)) ::
oc 15 28 [(.t 12), (.t 13), (.t 14)] ::
om 16 0 ::
oo 17 (.loadn 4 (.t 4)) ::
oo 18 (.loadn 3 (.t 5)) ::
oc 19 29 [(.t 16), (.t 17), (.t 18)] ::
oo 20 (.int .eql (.t 15) (.t 19)) ::
om 21 20 ::
ocg 22 21 true 12 [] ::
oo 23 (.pick (.t 21) (.t 22) (.c (Value.bool false))) ::
om 6 23 :: []) []) .ret)))
def r5 : List ResultVar := [.tmp 6]
theorem fun5 : Fun Tryz.prog 5 24 3 a5 r5 :=
  ⟨rfl, Tryz.f5, _, rfl, rfl, rfl, by decide, rfl, rfl, rfl⟩
noncomputable def a6 : ACode := (.seq (.reg (
 oo 4 (.mv (.c (Value.bool false))) :: [])) (.seq (.seq (.reg (
 om 13 0 ::
oo 14 (.len (.t 13)) ::
oo 15 (.int .gtr (.t 14) (.c (Value.int .i64 70))) ::
om 16 15 ::
og 17 16 false (.mv (.t 1)) ::
og 18 16 false (.lenstr (.t 17)) ::
og 19 16 false (.int .gtr (.t 18) (.c (Value.int .i64 4000))) ::
og 20 16 false (.mv (.t 19)) ::
og 21 20 true (.mv (.t 1)) ::
og 22 20 true (.lenstr (.t 21)) ::
og 23 20 true (.int .leq (.t 22) (.c (Value.int .i64 65536))) ::
og 24 16 false (.pick (.t 20) (.t 23) (.c (Value.bool false))) ::
oo 25 (.pick (.t 16) (.c (Value.bool true)) (.t 24)) ::
om 26 25 ::
og 27 26 false (.mv (.t 1)) ::
og 28 26 false (.lenstr (.t 27)) ::
og 29 26 false (.int .gtr (.t 28) (.c (Value.int .i64 65600))) ::
oo 30 (.pick (.t 26) (.c (Value.bool true)) (.t 29)) :: [])) (.cond (.t 30) (.seq (.reg (
 oc 31 12 [] ::
om 4 31 :: [])) .ret) .skip)) (.seq (.reg (
 om 33 0 ::
oc 34 30 [(.t 33)] ::
om 32 34 ::
oo 35 (.extract (.t 32) 0) ::
oo 36 (.extract (.t 32) 1) ::
om 5 35 ::
om 6 36 :: [])) (.seq (.reg (
 om 38 0 ::
oc 39 31 [(.t 38)] ::
om 37 39 ::
oo 40 (.extract (.t 37) 0) ::
oo 41 (.extract (.t 37) 1) ::
om 7 40 ::
om 8 41 :: [])) (.seq (.reg (
 om 43 1 ::
oc 44 32 [(.t 43)] ::
om 42 44 ::
oo 45 (.extract (.t 42) 0) ::
oo 46 (.extract (.t 42) 1) ::
om 9 45 ::
om 10 46 :: [])) (.seq (.reg (
 om 48 1 ::
oc 49 33 [(.t 48)] ::
om 47 49 ::
oo 50 (.extract (.t 47) 0) ::
oo 51 (.extract (.t 47) 1) ::
om 11 50 ::
om 12 51 :: [])) (.seq (.reg (
 om 52 5 ::
om 53 7 ::
oo 54 (.pure (rawOp Tryz.f6 7 2)) ::
om 55 54 ::
og 56 55 true (.mv (.t 6)) ::
og 57 55 true (.mv (.t 8)) ::
og 58 55 true (.int .eql (.t 56) (.t 57)) ::
oo 59 (.pick (.t 55) (.t 58) (.c (Value.bool false))) ::
om 60 59 ::
og 61 60 true (.mv (.t 9)) ::
og 62 60 true (.mv (.t 11)) ::
ocg 63 60 true 34 [(.t 61), (.t 62)] ::
oo 64 (.pick (.t 60) (.t 63) (.c (Value.bool false))) ::
om 65 64 ::
og 66 65 true (.mv (.t 10)) ::
og 67 65 true (.mv (.t 12)) ::
og 68 65 true (.int .eql (.t 66) (.t 67)) ::
oo 69 (.pick (.t 65) (.t 68) (.c (Value.bool false))) ::
om 70 69 ::
ocg 71 70 true 12 [] ::
oo 72 (.pick (.t 70) (.t 71) (.c (Value.bool false))) ::
om 4 72 :: [])) .ret)))))))
def r6 : List ResultVar := [.tmp 4]
theorem fun6 : Fun Tryz.prog 6 73 2 a6 r6 :=
  ⟨rfl, Tryz.f6, _, rfl, rfl, rfl, by decide, rfl, rfl, rfl⟩
noncomputable def a12 : ACode := (.seq (.reg (
 oo 0 (.mv (.c (Value.bool false))) :: [])) (.seq (.reg (
 oc 21 38 [] ::
om 1 21 :: [])) (.seq (.reg (
 om 23 1 ::
oc 24 13 [(.t 23)] ::
om 22 24 ::
oo 25 (.extract (.t 22) 0) ::
oo 26 (.extract (.t 22) 1) ::
om 2 25 ::
om 3 26 :: [])) (.seq (.reg (
 om 28 1 ::
oc 29 15 [(.t 28)] ::
om 27 29 ::
oo 30 (.extract (.t 27) 0) ::
oo 31 (.extract (.t 27) 1) ::
oo 4 (.alloc [k0, k0, Value.slice none 0 0] 30) ::
oz (.store 3 (.t 4) (.t 30)) ::
om 5 31 :: [])) (.seq (.reg (
 om 33 1 ::
oo 34 (.ixsl 4 (.t 33) (.c (Value.int .i64 3))) ::
oo 35 (.loadn 4 (.t 34)) ::
oc 36 21 [(.t 35)] ::
om 32 36 ::
oo 37 (.extract (.t 32) 0) ::
oo 38 (.extract (.t 32) 1) ::
om 6 37 ::
om 7 38 :: [])) (.seq (.reg (
 oc 40 23 [(.c (Value.slice none 0 0))] ::
om 39 40 ::
oo 41 (.extract (.t 39) 0) ::
oo 42 (.extract (.t 39) 1) ::
om 8 41 ::
om 9 42 :: [])) (.seq (.reg (
 om 44 1 ::
oc 45 25 [(.t 44), (.c (Value.int .i64 8))] ::
om 43 45 ::
oo 46 (.extract (.t 43) 0) ::
oo 47 (.extract (.t 43) 1) ::
oo 10 (.alloc [k0, k0, Value.slice none 0 0] 45) ::
oz (.store 3 (.t 10) (.t 46)) ::
om 11 47 :: [])) (.seq (.reg (
 om 49 1 ::
oc 50 23 [(.t 49)] ::
om 48 50 ::
oo 51 (.extract (.t 48) 0) ::
oo 52 (.extract (.t 48) 1) ::
om 12 51 ::
om 13 52 :: [])) (.seq (.dreg (
 om 53 12 ::
om 54 1 ::
oo 55 (.ixsl 4 (.t 54) (.c (Value.int .i64 8))) ::
oo 56 (.loadn 4 (.t 55)) ::
oo 57 (.loadn 3 (.t 10)) ::
oc 58 28 [(.t 53), (.t 56), (.t 57)] ::
om 14 58 :: []) []) (.seq (.reg (
 om 60 1 ::
oc 61 30 [(.t 60)] ::
om 59 61 ::
oo 62 (.extract (.t 59) 0) ::
oo 63 (.extract (.t 59) 1) ::
om 15 62 ::
om 16 63 :: [])) (.seq (.reg (
 om 65 15 ::
oc 66 32 [(.t 65)] ::
om 64 66 ::
oo 67 (.extract (.t 64) 0) ::
oo 68 (.extract (.t 64) 1) ::
om 17 67 ::
om 18 68 :: [])) (.seq (.seq (.reg (
 om 69 3 ::
oo 70 (.int .neq (.t 69) z0) ::
om 71 70 ::
og 72 71 false (.mv (.t 5)) ::
og 73 71 false (.int .neq (.t 72) z0) ::
oo 74 (.pick (.t 71) (.c (Value.bool true)) (.t 73)) ::
om 75 74 ::
og 76 75 false (.mv (.t 7)) ::
og 77 75 false (.int .neq (.t 76) z0) ::
oo 78 (.pick (.t 75) (.c (Value.bool true)) (.t 77)) ::
om 79 78 ::
og 80 79 false (.mv (.t 9)) ::
og 81 79 false (.int .neq (.t 80) z0) ::
oo 82 (.pick (.t 79) (.c (Value.bool true)) (.t 81)) ::
om 83 82 ::
og 84 83 false (.mv (.t 11)) ::
og 85 83 false (.int .neq (.t 84) z0) ::
oo 86 (.pick (.t 83) (.c (Value.bool true)) (.t 85)) ::
om 87 86 ::
og 88 87 false (.mv (.t 13)) ::
og 89 87 false (.int .neq (.t 88) z0) ::
oo 90 (.pick (.t 87) (.c (Value.bool true)) (.t 89)) ::
om 91 90 ::
og 92 91 false (.mv (.t 14)) ::
og 93 91 false (.int .neq (.t 92) z0) ::
oo 94 (.pick (.t 91) (.c (Value.bool true)) (.t 93)) ::
om 95 94 ::
og 96 95 false (.mv (.t 16)) ::
og 97 95 false (.int .neq (.t 96) z0) ::
oo 98 (.pick (.t 95) (.c (Value.bool true)) (.t 97)) ::
om 99 98 ::
og 100 99 false (.mv (.t 18)) ::
og 101 99 false (.int .neq (.t 100) z0) ::
oo 102 (.pick (.t 99) (.c (Value.bool true)) (.t 101)) ::
om 103 102 ::
og 104 103 false (.mv (.t 2)) ::
og 105 103 false (.len (.t 104)) ::
og 106 103 false (.mv (.t 1)) ::
og 107 103 false (.len (.t 106)) ::
og 108 103 false (.int .neq (.t 105) (.t 107)) ::
oo 109 (.pick (.t 103) (.c (Value.bool true)) (.t 108)) :: [])) (.cond (.t 109) (.seq (.reg (
 oo 0 (.mv (.c (Value.bool false))) :: [])) .ret) .skip)) (.seq (.seq (.reg (
 oo 19 (.mv z0) :: [])) (.block 0 (.loop (.seq (.seq (.reg (
 om 110 19 ::
om 111 1 ::
oo 112 (.len (.t 111)) ::
oo 113 (.int .lss (.t 110) (.t 112)) :: [])) (.cond (.t 113) .skip (.exit 0))) (.seq (.block 1 (.seq (.reg (
 oo 20 (.mv z0) :: [])) (.seq (.seq (.reg (
 om 116 19 ::
oo 117 (.int .eql (.t 116) (.c (Value.int .i64 9))) :: [])) (.cond (.t 117) (.reg (
 oo 20 (.mv (.c (Value.int .i64 9))) :: [])) .skip)) (.seq (.seq (.reg (
 om 118 19 ::
oo 119 (.int .eql (.t 118) (.c (Value.int .i64 10))) :: [])) (.cond (.t 119) (.reg (
 oo 20 (.mv (.c (Value.int .i64 11))) :: [])) .skip)) (.seq (.seq (.reg (
 om 120 19 ::
oo 121 (.int .eql (.t 120) (.c (Value.int .i64 11))) :: [])) (.cond (.t 121) (.reg (
 oo 20 (.mv (.c (Value.int .i64 5))) :: [])) .skip)) (.seq (.reg (
 om 122 2 ::
om 123 19 ::
oo 124 (.ixsl 1 (.t 122) (.t 123)) ::
oo 125 (.load1 (.t 124)) ::
om 126 20 ::
oo 127 (.int .neq (.t 125) (.t 126)) :: [])) (.cond (.t 127) (.seq (.reg (
 oo 0 (.mv (.c (Value.bool false))) :: [])) .ret) .skip))))))) (.reg (
 om 114 19 ::
oo 115 (.int .add (.t 114) z1) ::
om 19 115 :: []))))))) (.seq (.reg (
 oo 128 (.loadn 3 (.t 4)) ::
oo 129 (.build [k0, k0, k0, k0, k0, k0, k0, k0] [(0, 1, (.c (Value.int .i64 7))), (1, 1, (.c (Value.int .i64 2))), (2, 1, (.c (Value.int .i64 600))), (3, 1, (.c (Value.int .i64 2))), (4, 1, z1), (5, 1, (.c (Value.int .i64 100))), (6, 1, (.c (Value.int .i64 100))), (7, 1, (.c (Value.int .i64 60)))]) ::
oo 130 (.bslice [k0, k0, k0, k0, k0, k0, k0, k0] [(0, 8, (.t 129))] 1 61) ::
oo 131 (.build [k0, k0, Value.slice none 0 0] [(0, 1, (.c (Value.int .i64 970))), (1, 1, (.c (Value.int .i64 30))), (2, 1, (.t 130))]) ::
oc 132 20 [(.t 128), (.t 131)] ::
om 133 132 ::
og 134 133 true (.mv (.t 6)) ::
og 135 133 true (.pure (rawOp Tryz.f12 25 7)) ::
oo 136 (.pick (.t 133) (.t 135) (.c (Value.bool false))) ::
om 137 136 ::
og 138 137 true (.mv (.t 8)) ::
og 139 137 true (.int .eql (.t 138) z0) ::
oo 140 (.pick (.t 137) (.t 139) (.c (Value.bool false))) ::
om 141 140 ::
og 142 141 true (.faddr 2 (.t 10)) ::
og 143 141 true (.load1 (.t 142)) ::
og 144 141 true (.len (.t 143)) ::
og 145 141 true (.int .eql (.t 144) (.c (Value.int .i64 3))) ::
oo 146 (.pick (.t 141) (.t 145) (.c (Value.bool false))) ::
om 147 146 ::
og 148 147 true (.mv (.t 17)) ::
og 149 147 true (.mv (.t 1)) ::
ocg 150 147 true 34 [(.t 148), (.t 149)] ::
oo 151 (.pick (.t 147) (.t 150) (.c (Value.bool false))) ::
om 0 151 :: [])) .ret))))))))))))))
def r12 : List ResultVar := [.tmp 0]
theorem fun12 : Fun Tryz.prog 12 152 0 a12 r12 :=
  ⟨rfl, Tryz.f12, _, rfl, rfl, rfl, by decide, rfl, rfl, rfl⟩
noncomputable def a13 : ACode := (.seq (.reg (
 oo 2 (.mv (.c (Value.slice none 0 0))) ::
oo 3 (.mv z0) :: [])) (.seq (.reg (
 om 8 0 ::
oc 9 40 [(.t 8)] ::
om 7 9 ::
oo 10 (.extract (.t 7) 0) ::
oo 11 (.extract (.t 7) 1) ::
oo 12 (.extract (.t 7) 2) ::
om 4 10 ::
om 5 11 ::
om 6 12 :: [])) (.seq (.reg (
 om 13 5 ::
om 14 6 ::
om 2 13 ::
om 3 14 :: [])) .ret)))
def r13 : List ResultVar := [.tmp 2, .tmp 3]
theorem fun13 : Fun Tryz.prog 13 15 1 a13 r13 :=
  ⟨rfl, Tryz.f13, _, rfl, rfl, rfl, by decide, rfl, rfl, rfl⟩
noncomputable def a15 : ACode := (.seq (.reg (
 oo 2 (.alloc [k0, k0, Value.slice none 0 0] 30) ::
oo 3 (.mv z0) :: [])) (.seq (.reg (
 om 11 0 ::
oc 12 40 [(.t 11)] ::
om 10 12 ::
oo 13 (.extract (.t 10) 0) ::
oo 14 (.extract (.t 10) 1) ::
oo 15 (.extract (.t 10) 2) ::
om 4 13 ::
om 5 14 ::
om 6 15 :: [])) (.seq (.seq (.reg (
 om 16 6 ::
oo 17 (.int .neq (.t 16) z0) :: [])) (.cond (.t 17) (.seq (.reg (
 oo 18 (.build [k0, k0, Value.slice none 0 0] []) ::
om 19 6 ::
oz (.store 3 (.t 2) (.t 18)) ::
om 3 19 :: [])) .ret) .skip)) (.seq (.dreg (
 om 20 4 ::
oo 21 (.nilck (.t 20)) ::
oo 22 (.faddr 0 (.t 21)) ::
oo 23 (.load1 (.t 22)) ::
om 24 4 ::
oo 25 (.nilck (.t 24)) ::
oo 26 (.faddr 1 (.t 25)) ::
oo 27 (.load1 (.t 26)) ::
oo 28 (.build [k0, k0, Value.slice none 0 0] [(0, 1, (.t 23)), (1, 1, (.t 27))]) ::
oo 7 (.alloc [k0, k0, Value.slice none 0 0] 30) ::
oz (.store 3 (.t 7) (.t 28)) :: []) []) (.seq (.seq (.reg (
 om 29 4 ::
oo 30 (.nilck (.t 29)) ::
oo 31 (.faddr 2 (.t 30)) ::
oo 32 (.load1 (.t 31)) ::
oc 33 42 [(.t 32)] ::
oo 34 (.len (.t 33)) ::
oo 35 (.mv z0) :: [])) (.block 0 (.loop (.seq (.reg (
 oo 36 (.int .lss (.t 35) (.t 34)) :: [])) (.seq (.cond (.t 36) .skip (.exit 0)) (.seq (.block 1 (.seq (.reg (
 oo 37 (.ixsl 1 (.t 33) (.t 35)) ::
oo 38 (.load1 (.t 37)) ::
om 9 38 :: [])) (.dreg (
 oo 39 (.faddr 2 (.t 7)) ::
oo 40 (.load1 (.t 39)) ::
om 41 9 ::
oo 42 (.nilck (.t 41)) ::
oo 43 (.faddr 0 (.t 42)) ::
oo 44 (.loadn 8 (.t 43)) ::
oo 45 (.bslice [k0, k0, k0, k0, k0, k0, k0, k0] [(0, 8, (.t 44))] 1 61) ::
oo 46 (.append 61 8 64 (.t 40) (.t 45)) ::
oo 47 (.faddr 2 (.t 7)) ::
oz (.store 1 (.t 47) (.t 46)) :: []) []))) (.reg (
 oo 48 (.int .add (.t 35) z1) ::
om 35 48 :: [])))))))) (.seq (.reg (
 oo 49 (.loadn 3 (.t 7)) ::
oz (.store 3 (.t 2) (.t 49)) ::
oo 3 (.mv z0) :: [])) .ret))))))
def r15 : List ResultVar := [.cell 2 30, .tmp 3]
theorem fun15 : Fun Tryz.prog 15 50 1 a15 r15 :=
  ⟨rfl, Tryz.f15, _, rfl, rfl, rfl, by decide, rfl, rfl, rfl⟩
noncomputable def a17 : ACode := (.seq (.reg (
 oo 2 (.mv z0) :: [])) (.seq (.block 0 (.seq (.reg (
 om 4 0 ::
oo 5 (.len (.t 4)) ::
oo 6 (.int .gtr (.t 5) (.c (Value.int .i64 60))) ::
om 3 6 :: [])) (.cond (.t 3) (.seq (.reg (
 oo 2 (.mv (.c (Value.int .i64 6))) :: [])) .ret) (.seq (.reg (
 om 8 0 ::
oc 9 43 [(.t 8), (.c (Value.func (.func 44) #[] #[]))] ::
om 7 9 :: [])) (.cond (.t 7) (.seq (.reg (
 oo 2 (.mv (.c (Value.int .i64 2))) :: [])) .ret) .skip))))) (.seq (.reg (
 oo 2 (.mv z0) :: [])) .ret)))
def r17 : List ResultVar := [.tmp 2]
theorem fun17 : Fun Tryz.prog 17 10 1 a17 r17 :=
  ⟨rfl, Tryz.f17, _, rfl, rfl, rfl, by decide, rfl, rfl, rfl⟩
noncomputable def a18 : ACode := (.seq (.reg (
 oo 2 (.mv z0) :: [])) (.seq (.seq (.reg (
 om 4 0 ::
oo 5 (.len (.t 4)) ::
oo 6 (.int .gtr (.t 5) (.c (Value.int .i64 60))) :: [])) (.cond (.t 6) (.seq (.reg (
 oo 2 (.mv (.c (Value.int .i64 6))) :: [])) .ret) .skip)) (.seq (.seq (.reg (
 oo 3 (.mv z0) :: [])) (.block 0 (.loop (.seq (.seq (.reg (
 om 7 3 ::
om 8 0 ::
oo 9 (.len (.t 8)) ::
oo 10 (.int .lss (.t 7) (.t 9)) :: [])) (.cond (.t 10) .skip (.exit 0))) (.seq (.block 1 (.seq (.reg (
 om 13 0 ::
om 14 3 ::
oo 15 (.ixsl 4 (.t 13) (.t 14)) ::
oo 16 (.loadn 4 (.t 15)) ::
oc 17 46 [(.t 16)] ::
oo 18 (.not (.t 17)) :: [])) (.cond (.t 18) (.seq (.reg (
 oo 2 (.mv (.c (Value.int .i64 2))) :: [])) .ret) .skip))) (.reg (
 om 11 3 ::
oo 12 (.int .add (.t 11) z1) ::
om 3 12 :: []))))))) (.seq (.reg (
 oo 2 (.mv z0) :: [])) .ret))))
def r18 : List ResultVar := [.tmp 2]
theorem fun18 : Fun Tryz.prog 18 19 1 a18 r18 :=
  ⟨rfl, Tryz.f18, _, rfl, rfl, rfl, by decide, rfl, rfl, rfl⟩
noncomputable def a20 : ACode := (.seq (.reg (
 oo 2 (.box (.t 0) 30) ::
oo 3 (.box (.t 1) 30) ::
oo 4 (.mv (.c (Value.bool false))) :: [])) (.seq (.seq (.reg (
 oo 6 (.faddr 0 (.t 2)) ::
oo 7 (.load1 (.t 6)) ::
oo 8 (.faddr 0 (.t 3)) ::
oo 9 (.load1 (.t 8)) ::
oo 10 (.int .neq (.t 7) (.t 9)) ::
om 11 10 ::
og 12 11 false (.faddr 1 (.t 2)) ::
og 13 11 false (.load1 (.t 12)) ::
og 14 11 false (.faddr 1 (.t 3)) ::
og 15 11 false (.load1 (.t 14)) ::
og 16 11 false (.int .neq (.t 13) (.t 15)) ::
oo 17 (.pick (.t 11) (.c (Value.bool true)) (.t 16)) ::
om 18 17 ::
og 19 18 false (.faddr 2 (.t 2)) ::
og 20 18 false (.load1 (.t 19)) ::
og 21 18 false (.len (.t 20)) ::
og 22 18 false (.faddr 2 (.t 3)) ::
og 23 18 false (.load1 (.t 22)) ::
og 24 18 false (.len (.t 23)) ::
og 25 18 false (.int .neq (.t 21) (.t 24)) ::
oo 26 (.pick (.t 18) (.c (Value.bool true)) (.t 25)) :: [])) (.cond (.t 26) (.seq (.reg (
 oo 4 (.mv (.c (Value.bool false))) :: [])) .ret) .skip)) (.seq (.seq (.reg (
 oo 5 (.mv z0) :: [])) (.block 0 (.loop (.seq (.seq (.reg (
 om 27 5 ::
oo 28 (.faddr 2 (.t 2)) ::
oo 29 (.load1 (.t 28)) ::
oo 30 (.len (.t 29)) ::
oo 31 (.int .lss (.t 27) (.t 30)) :: [])) (.cond (.t 31) .skip (.exit 0))) (.seq (.block 1 (.seq (.dreg (
 oo 34 (.faddr 2 (.t 2)) ::
oo 35 (.load1 (.t 34)) ::
om 36 5 ::
oo 37 (.ixsl 8 (.t 35) (.t 36)) ::
oo 38 (.loadn 8 (.t 37)) ::
oo 39 (.faddr 2 (.t 3)) ::
oo 40 (.load1 (.t 39)) ::
om 41 5 ::
oo 42 (.ixsl 8 (.t 40) (.t 41)) ::
oo 43 (.loadn 8 (.t 42)) ::
oo 44 (.pure (rawOp Tryz.f20 6 10)) :: []) []) (.cond (.t 44) (.seq (.reg (
 oo 4 (.mv (.c (Value.bool false))) :: [])) .ret) .skip))) (.reg (
 om 32 5 ::
oo 33 (.int .add (.t 32) z1) ::
om 5 33 :: []))))))) (.seq (.reg (
 oo 4 (.mv (.c (Value.bool true))) :: [])) .ret))))
def r20 : List ResultVar := [.tmp 4]
theorem fun20 : Fun Tryz.prog 20 45 2 a20 r20 :=
  ⟨rfl, Tryz.f20, _, rfl, rfl, rfl, by decide, rfl, rfl, rfl⟩
noncomputable def a21 : ACode := (.seq (.reg (
 oo 1 (.box (.t 0) 38) ::
oo 2 (.mv (.c (Value.string (ByteArray.mk #[])))) ::
oo 3 (.mv z0) :: [])) (.seq (.seq (.reg (
 oo 4 (.loadn 4 (.t 1)) ::
oc 5 45 [(.t 4)] ::
oo 6 (.not (.t 5)) :: [])) (.cond (.t 6) (.seq (.reg (
 oo 2 (.mv (.c (Value.string (ByteArray.mk #[])))) ::
oo 3 (.mv (.c (Value.int .i64 2))) :: [])) .ret) .skip)) (.seq (.reg (
 oo 7 (.loadn 4 (.t 1)) ::
oc 8 47 [(.t 7)] ::
om 2 8 ::
oo 3 (.mv z0) :: [])) .ret)))
def r21 : List ResultVar := [.tmp 2, .tmp 3]
theorem fun21 : Fun Tryz.prog 21 9 1 a21 r21 :=
  ⟨rfl, Tryz.f21, _, rfl, rfl, rfl, by decide, rfl, rfl, rfl⟩
noncomputable def a22 : ACode := (.seq (.reg (
 oo 1 (.box (.t 0) 38) ::
oo 2 (.mv (.c (Value.string (ByteArray.mk #[])))) ::
oo 3 (.mv z0) :: [])) (.seq (.seq (.reg (
 oo 4 (.loadn 4 (.t 1)) ::
oc 5 46 [(.t 4)] ::
oo 6 (.not (.t 5)) :: [])) (.cond (.t 6) (.seq (.reg (
 oo 2 (.mv (.c (Value.string (ByteArray.mk #[])))) ::
oo 3 (.mv (.c (Value.int .i64 2))) :: [])) .ret) .skip)) (.seq (.reg (
 oo 7 (.loadn 4 (.t 1)) ::
oc 8 48 [(.t 7)] ::
om 2 8 ::
oo 3 (.mv z0) :: [])) .ret)))
def r22 : List ResultVar := [.tmp 2, .tmp 3]
theorem fun22 : Fun Tryz.prog 22 9 1 a22 r22 :=
  ⟨rfl, Tryz.f22, _, rfl, rfl, rfl, by decide, rfl, rfl, rfl⟩
noncomputable def a23 : ACode := (.seq (.reg (
 oo 2 (.mv z0) ::
oo 3 (.mv z0) :: [])) (.seq (.seq (.reg (
 om 5 0 ::
oc 6 17 [(.t 5)] ::
om 4 6 :: [])) (.seq (.reg (
 om 7 4 ::
oo 8 (.int .neq (.t 7) z0) :: [])) (.cond (.t 8) (.seq (.reg (
 om 9 4 ::
oo 2 (.mv z0) ::
om 3 9 :: [])) .ret) .skip))) (.seq (.reg (
 om 10 0 ::
oc 11 49 [(.t 10)] ::
om 2 11 ::
oo 3 (.mv z0) :: [])) .ret)))
def r23 : List ResultVar := [.tmp 2, .tmp 3]
theorem fun23 : Fun Tryz.prog 23 12 1 a23 r23 :=
  ⟨rfl, Tryz.f23, _, rfl, rfl, rfl, by decide, rfl, rfl, rfl⟩
noncomputable def a24 : ACode := (.seq (.reg (
 oo 2 (.mv z0) ::
oo 3 (.mv z0) :: [])) (.seq (.seq (.reg (
 om 4 0 ::
oc 5 18 [(.t 4)] ::
oo 6 (.int .neq (.t 5) z0) :: [])) (.cond (.t 6) (.seq (.reg (
 om 7 0 ::
oc 8 18 [(.t 7)] ::
oo 2 (.mv z0) ::
om 3 8 :: [])) .ret) .skip)) (.seq (.reg (
 om 9 0 ::
oc 10 50 [(.t 9)] ::
om 2 10 ::
oo 3 (.mv z0) :: [])) .ret)))
def r24 : List ResultVar := [.tmp 2, .tmp 3]
theorem fun24 : Fun Tryz.prog 24 11 1 a24 r24 :=
  ⟨rfl, Tryz.f24, _, rfl, rfl, rfl, by decide, rfl, rfl, rfl⟩
noncomputable def a25A0 : ACode := (.reg (
 oo 8 (.alloc [k0, k0, Value.bool false] 94) ::
oz (.store 3 (.t 8) (.t 32)) :: []))
noncomputable def a25B0 : ACode := (.block 1 (.dreg (
 oo 33 (.faddr 2 (.t 7)) ::
oo 34 (.load1 (.t 33)) ::
oo 35 (.load1 (.t 2)) ::
oo 36 (.faddr 0 (.t 8)) ::
oo 37 (.load1 (.t 36)) ::
oo 38 (.faddr 1 (.t 8)) ::
oo 39 (.load1 (.t 38)) ::
oo 40 (.slsl 4 (.t 35) (some (.t 37)) (some (.t 39)) none) ::
oc 41 49 [(.t 40)] ::
oo 42 (.bslice [k0] [(0, 1, (.t 41))] 1 2) ::
oo 43 (.append 2 1 8 (.t 34) (.t 42)) ::
oo 44 (.faddr 2 (.t 7)) ::
oz (.store 1 (.t 44) (.t 43)) :: []) []))
theorem c25A0 : cCode Tryz.prog 46 false (rfAt Tryz.f25 0).1 = some a25A0 := rfl
theorem c25B0 : cCode Tryz.prog 46 false (rfAt Tryz.f25 0).2 = some a25B0 := rfl
noncomputable def a25 : ACode := (.seq (.reg (
 oo 2 (.box (.t 0) 22) ::
oo 4 (.alloc [k0, k0, Value.slice none 0 0] 45) ::
oo 5 (.mv z0) :: [])) (.seq (.seq (.reg (
 oo 9 (.load1 (.t 2)) ::
oc 10 17 [(.t 9)] ::
om 6 10 :: [])) (.seq (.reg (
 om 11 6 ::
oo 12 (.int .neq (.t 11) z0) :: [])) (.cond (.t 12) (.seq (.reg (
 oo 13 (.build [k0, k0, Value.slice none 0 0] []) ::
om 14 6 ::
oz (.store 3 (.t 4) (.t 13)) ::
om 5 14 :: [])) .ret) .skip))) (.seq (.seq (.reg (
 om 15 1 ::
oo 16 (.int .lss (.t 15) z0) ::
om 17 16 ::
og 18 17 false (.mv (.t 1)) ::
og 19 17 false (.load1 (.t 2)) ::
og 20 17 false (.len (.t 19)) ::
og 21 17 false (.int .geq (.t 18) (.t 20)) ::
oo 22 (.pick (.t 17) (.c (Value.bool true)) (.t 21)) :: [])) (.cond (.t 22) (.seq (.reg (
 oo 23 (.build [k0, k0, Value.slice none 0 0] []) ::
oz (.store 3 (.t 4) (.t 23)) ::
oo 5 (.mv (.c (Value.int .i64 3))) :: [])) .ret) .skip)) (.seq (.reg (
 om 24 1 ::
oo 25 (.load1 (.t 2)) ::
oo 26 (.len (.t 25)) ::
oo 27 (.build [k0, k0, Value.slice none 0 0] [(0, 1, (.t 24)), (1, 1, (.t 26))]) ::
oo 7 (.alloc [k0, k0, Value.slice none 0 0] 45) ::
oz (.store 3 (.t 7) (.t 27)) :: [])) (.seq (.seq (.reg (
 om 28 1 ::
oo 29 (.load1 (.t 2)) ::
oo 30 (.len (.t 29)) ::
oc 31 51 [(.t 28), (.t 30)] :: [])) (.block 0 (.range (.t 31) [32] 46 (rfAt Tryz.f25 0).1 (rfAt Tryz.f25 0).2 a25A0 a25B0))) (.seq (.reg (
 oo 45 (.loadn 3 (.t 7)) ::
oz (.store 3 (.t 4) (.t 45)) ::
oo 5 (.mv z0) :: [])) .ret))))))
def r25 : List ResultVar := [.cell 4 45, .tmp 5]
theorem fun25 : Fun Tryz.prog 25 46 2 a25 r25 :=
  ⟨rfl, Tryz.f25, _, rfl, rfl, rfl, by decide, rfl, rfl, rfl⟩
noncomputable def a26 : ACode := (.seq (.reg (
 oo 4 (.alloc [k0, k0, Value.slice none 0 0] 45) ::
oo 5 (.mv z0) :: [])) (.seq (.seq (.reg (
 om 6 0 ::
oc 7 18 [(.t 6)] ::
oo 8 (.int .neq (.t 7) z0) :: [])) (.cond (.t 8) (.seq (.reg (
 oo 9 (.build [k0, k0, Value.slice none 0 0] []) ::
om 10 0 ::
oc 11 18 [(.t 10)] ::
oz (.store 3 (.t 4) (.t 9)) ::
om 5 11 :: [])) .ret) .skip)) (.seq (.seq (.reg (
 om 12 1 ::
oo 13 (.int .lss (.t 12) z0) ::
om 14 13 ::
og 15 14 false (.mv (.t 1)) ::
og 16 14 false (.mv (.t 0)) ::
og 17 14 false (.len (.t 16)) ::
og 18 14 false (.int .geq (.t 15) (.t 17)) ::
oo 19 (.pick (.t 14) (.c (Value.bool true)) (.t 18)) :: [])) (.cond (.t 19) (.seq (.reg (
 oo 20 (.build [k0, k0, Value.slice none 0 0] []) ::
oz (.store 3 (.t 4) (.t 20)) ::
oo 5 (.mv (.c (Value.int .i64 3))) :: [])) .ret) .skip)) (.seq (.reg (
 om 21 1 ::
om 22 0 ::
oo 23 (.len (.t 22)) ::
om 24 0 ::
om 25 1 ::
oc 26 52 [(.t 24), (.t 25)] ::
oo 27 (.build [k0, k0, Value.slice none 0 0] [(0, 1, (.t 21)), (1, 1, (.t 23)), (2, 1, (.t 26))]) ::
oz (.store 3 (.t 4) (.t 27)) ::
oo 5 (.mv z0) :: [])) .ret))))
def r26 : List ResultVar := [.cell 4 45, .tmp 5]
theorem fun26 : Fun Tryz.prog 26 28 2 a26 r26 :=
  ⟨rfl, Tryz.f26, _, rfl, rfl, rfl, by decide, rfl, rfl, rfl⟩
noncomputable def a27 : ACode := (.seq (.reg (
 oo 4 (.mv (.c (Value.bool false))) :: [])) (.seq (.seq (.reg (
 om 6 0 ::
oo 7 (.len (.t 6)) ::
om 8 1 ::
oo 9 (.len (.t 8)) ::
oo 10 (.int .neq (.t 7) (.t 9)) :: [])) (.cond (.t 10) (.seq (.reg (
 oo 4 (.mv (.c (Value.bool false))) :: [])) .ret) .skip)) (.seq (.seq (.reg (
 oo 5 (.mv z0) :: [])) (.block 0 (.loop (.seq (.seq (.reg (
 om 11 5 ::
om 12 0 ::
oo 13 (.len (.t 12)) ::
oo 14 (.int .lss (.t 11) (.t 13)) :: [])) (.cond (.t 14) .skip (.exit 0))) (.seq (.block 1 (.seq (.dreg (
 om 17 0 ::
om 18 5 ::
oo 19 (.ixsl 1 (.t 17) (.t 18)) ::
oo 20 (.load1 (.t 19)) ::
om 21 1 ::
om 22 5 ::
oo 23 (.ixsl 1 (.t 21) (.t 22)) ::
oo 24 (.load1 (.t 23)) ::
oo 25 (.int .neq (.t 20) (.t 24)) :: []) []) (.cond (.t 25) (.seq (.reg (
 oo 4 (.mv (.c (Value.bool false))) :: [])) .ret) .skip))) (.reg (
 om 15 5 ::
oo 16 (.int .add (.t 15) z1) ::
om 5 16 :: []))))))) (.seq (.reg (
 oo 4 (.mv (.c (Value.bool true))) :: [])) .ret))))
def r27 : List ResultVar := [.tmp 4]
theorem fun27 : Fun Tryz.prog 27 26 2 a27 r27 :=
  ⟨rfl, Tryz.f27, _, rfl, rfl, rfl, by decide, rfl, rfl, rfl⟩
noncomputable def a28 : ACode := (.seq (.reg (
 oo 4 (.box (.t 1) 38) ::
oo 5 (.box (.t 2) 45) ::
oo 6 (.mv z0) :: [])) (.seq (.block 0 (.seq (.reg (
 oo 12 (.loadn 4 (.t 4)) ::
oc 13 45 [(.t 12)] ::
oo 14 (.not (.t 13)) ::
om 15 14 ::
og 16 15 false (.mv (.t 0)) ::
ocg 17 15 false 53 [(.t 16)] ::
og 18 15 false (.not (.t 17)) ::
oo 19 (.pick (.t 15) (.c (Value.bool true)) (.t 18)) ::
om 11 19 :: [])) (.cond (.t 11) (.seq (.reg (
 oo 6 (.mv (.c (Value.int .i64 2))) :: [])) .ret) (.seq (.reg (
 oo 21 (.faddr 1 (.t 5)) ::
oo 22 (.load1 (.t 21)) ::
oo 23 (.int .lss (.t 22) z1) ::
om 24 23 ::
og 25 24 false (.faddr 1 (.t 5)) ::
og 26 24 false (.load1 (.t 25)) ::
og 27 24 false (.int .gtr (.t 26) (.c (Value.int .i64 60))) ::
oo 28 (.pick (.t 24) (.c (Value.bool true)) (.t 27)) ::
om 20 28 :: [])) (.cond (.t 20) (.seq (.reg (
 oo 6 (.mv (.c (Value.int .i64 6))) :: [])) .ret) (.seq (.reg (
 oo 30 (.faddr 0 (.t 5)) ::
oo 31 (.load1 (.t 30)) ::
oo 32 (.int .lss (.t 31) z0) ::
om 33 32 ::
og 34 33 false (.faddr 0 (.t 5)) ::
og 35 33 false (.load1 (.t 34)) ::
og 36 33 false (.faddr 1 (.t 5)) ::
og 37 33 false (.load1 (.t 36)) ::
og 38 33 false (.int .geq (.t 35) (.t 37)) ::
oo 39 (.pick (.t 33) (.c (Value.bool true)) (.t 38)) ::
om 29 39 :: [])) (.cond (.t 29) (.seq (.reg (
 oo 6 (.mv (.c (Value.int .i64 3))) :: [])) .ret) .skip))))))) (.seq (.reg (
 oo 40 (.faddr 0 (.t 5)) ::
oo 41 (.load1 (.t 40)) ::
oo 42 (.faddr 1 (.t 5)) ::
oo 43 (.load1 (.t 42)) ::
oc 44 51 [(.t 41), (.t 43)] ::
oc 45 54 [(.t 44)] ::
om 7 45 :: [])) (.seq (.block 1 (.seq (.reg (
 oo 47 (.faddr 2 (.t 5)) ::
oo 48 (.load1 (.t 47)) ::
oo 49 (.len (.t 48)) ::
om 50 7 ::
oo 51 (.len (.t 50)) ::
oo 52 (.int .neq (.t 49) (.t 51)) ::
om 46 52 :: [])) (.cond (.t 46) (.seq (.reg (
 oo 6 (.mv (.c (Value.int .i64 15))) :: [])) .ret) (.seq (.reg (
 oo 54 (.faddr 2 (.t 5)) ::
oo 55 (.load1 (.t 54)) ::
oc 56 55 [(.t 55), (.c (Value.func (.func 56) #[] #[]))] ::
om 53 56 :: [])) (.cond (.t 53) (.seq (.reg (
 oo 6 (.mv (.c (Value.int .i64 3))) :: [])) .ret) .skip))))) (.seq (.reg (
 oo 57 (.loadn 4 (.t 4)) ::
oc 58 47 [(.t 57)] ::
oc 59 57 [(.t 58)] ::
om 8 59 :: [])) (.seq (.seq (.reg (
 om 60 7 ::
oo 61 (.len (.t 60)) ::
oo 62 (.mv z0) :: [])) (.block 2 (.loop (.seq (.reg (
 oo 63 (.int .lss (.t 62) (.t 61)) :: [])) (.seq (.cond (.t 63) .skip (.exit 2)) (.seq (.block 3 (.seq (.reg (
 om 64 62 ::
oo 65 (.ixsl 3 (.t 60) (.t 62)) ::
oo 66 (.loadn 3 (.t 65)) ::
oo 10 (.alloc [k0, k0, Value.bool false] 94) ::
om 9 64 ::
oz (.store 3 (.t 10) (.t 66)) :: [])) (.seq (.reg (
 oo 67 (.faddr 2 (.t 10)) ::
oo 68 (.load1 (.t 67)) :: [])) (.cond (.t 68) (.reg (
 oo 69 (.faddr 2 (.t 5)) ::
oo 70 (.load1 (.t 69)) ::
om 71 9 ::
oo 72 (.ixsl 1 (.t 70) (.t 71)) ::
oo 73 (.load1 (.t 72)) ::
om 74 8 ::
oc 75 58 [(.t 73), (.t 74)] ::
om 8 75 :: [])) (.reg (
 om 76 8 ::
oo 77 (.faddr 2 (.t 5)) ::
oo 78 (.load1 (.t 77)) ::
om 79 9 ::
oo 80 (.ixsl 1 (.t 78) (.t 79)) ::
oo 81 (.load1 (.t 80)) ::
oc 82 58 [(.t 76), (.t 81)] ::
om 8 82 :: [])))))) (.reg (
 oo 83 (.int .add (.t 62) z1) ::
om 62 83 :: [])))))))) (.seq (.seq (.reg (
 om 84 8 ::
om 85 0 ::
oo 86 (.int .neq (.t 84) (.t 85)) :: [])) (.cond (.t 86) (.seq (.reg (
 oo 6 (.mv (.c (Value.int .i64 14))) :: [])) .ret) .skip)) (.seq (.reg (
 oo 6 (.mv z0) :: [])) .ret))))))))
def r28 : List ResultVar := [.tmp 6]
theorem fun28 : Fun Tryz.prog 28 87 3 a28 r28 :=
  ⟨rfl, Tryz.f28, _, rfl, rfl, rfl, by decide, rfl, rfl, rfl⟩
noncomputable def a29 : ACode := (.seq (.reg (
 oo 4 (.box (.t 1) 38) ::
oo 5 (.box (.t 2) 45) ::
oo 6 (.mv z0) :: [])) (.seq (.seq (.reg (
 oo 8 (.loadn 4 (.t 4)) ::
oc 9 46 [(.t 8)] ::
oo 10 (.not (.t 9)) ::
om 11 10 ::
og 12 11 false (.mv (.t 0)) ::
ocg 13 11 false 59 [(.t 12), z0, (.c (Value.int .i64 2147483646))] ::
og 14 11 false (.not (.t 13)) ::
oo 15 (.pick (.t 11) (.c (Value.bool true)) (.t 14)) :: [])) (.cond (.t 15) (.seq (.reg (
 oo 6 (.mv (.c (Value.int .i64 2))) :: [])) .ret) .skip)) (.seq (.seq (.reg (
 oo 16 (.faddr 1 (.t 5)) ::
oo 17 (.load1 (.t 16)) ::
oo 18 (.int .lss (.t 17) z1) ::
om 19 18 ::
og 20 19 false (.faddr 1 (.t 5)) ::
og 21 19 false (.load1 (.t 20)) ::
og 22 19 false (.int .gtr (.t 21) (.c (Value.int .i64 60))) ::
oo 23 (.pick (.t 19) (.c (Value.bool true)) (.t 22)) :: [])) (.cond (.t 23) (.seq (.reg (
 oo 6 (.mv (.c (Value.int .i64 6))) :: [])) .ret) .skip)) (.seq (.seq (.reg (
 oo 24 (.faddr 0 (.t 5)) ::
oo 25 (.load1 (.t 24)) ::
oo 26 (.int .lss (.t 25) z0) ::
om 27 26 ::
og 28 27 false (.faddr 0 (.t 5)) ::
og 29 27 false (.load1 (.t 28)) ::
og 30 27 false (.faddr 1 (.t 5)) ::
og 31 27 false (.load1 (.t 30)) ::
og 32 27 false (.int .geq (.t 29) (.t 31)) ::
oo 33 (.pick (.t 27) (.c (Value.bool true)) (.t 32)) :: [])) (.cond (.t 33) (.seq (.reg (
 oo 6 (.mv (.c (Value.int .i64 3))) :: [])) .ret) .skip)) (.seq (.seq (.dreg (
 oo 34 (.faddr 2 (.t 5)) ::
oo 35 (.load1 (.t 34)) ::
oo 36 (.len (.t 35)) ::
oo 37 (.faddr 0 (.t 5)) ::
oo 38 (.load1 (.t 37)) ::
oo 39 (.faddr 1 (.t 5)) ::
oo 40 (.load1 (.t 39)) ::
oc 41 60 [(.t 38), (.t 40)] ::
oo 42 (.int .neq (.t 36) (.t 41)) :: []) []) (.cond (.t 42) (.seq (.reg (
 oo 6 (.mv (.c (Value.int .i64 15))) :: [])) .ret) .skip)) (.seq (.seq (.reg (
 oo 7 (.mv z0) :: [])) (.block 0 (.loop (.seq (.seq (.reg (
 om 43 7 ::
oo 44 (.faddr 2 (.t 5)) ::
oo 45 (.load1 (.t 44)) ::
oo 46 (.len (.t 45)) ::
oo 47 (.int .lss (.t 43) (.t 46)) :: [])) (.cond (.t 47) .skip (.exit 0))) (.seq (.block 1 (.seq (.reg (
 oo 50 (.faddr 2 (.t 5)) ::
oo 51 (.load1 (.t 50)) ::
om 52 7 ::
oo 53 (.ixsl 1 (.t 51) (.t 52)) ::
oo 54 (.load1 (.t 53)) ::
oc 55 59 [(.t 54), z0, (.c (Value.int .i64 2147483646))] ::
oo 56 (.not (.t 55)) :: [])) (.cond (.t 56) (.seq (.reg (
 oo 6 (.mv (.c (Value.int .i64 3))) :: [])) .ret) .skip))) (.reg (
 om 48 7 ::
oo 49 (.int .add (.t 48) z1) ::
om 7 49 :: []))))))) (.seq (.seq (.dreg (
 oo 57 (.loadn 4 (.t 4)) ::
oc 58 48 [(.t 57)] ::
oc 59 62 [(.t 58)] ::
oo 60 (.faddr 0 (.t 5)) ::
oo 61 (.load1 (.t 60)) ::
oo 62 (.faddr 1 (.t 5)) ::
oo 63 (.load1 (.t 62)) ::
oo 64 (.faddr 2 (.t 5)) ::
oo 65 (.load1 (.t 64)) ::
oc 66 61 [(.t 59), (.t 61), (.t 63), (.t 65)] ::
om 67 0 ::
oo 68 (.int .neq (.t 66) (.t 67)) :: []) []) (.cond (.t 68) (.seq (.reg (
 oo 6 (.mv (.c (Value.int .i64 14))) :: [])) .ret) .skip)) (.seq (.reg (
 oo 6 (.mv z0) :: [])) .ret))))))))
def r29 : List ResultVar := [.tmp 6]
theorem fun29 : Fun Tryz.prog 29 69 3 a29 r29 :=
  ⟨rfl, Tryz.f29, _, rfl, rfl, rfl, by decide, rfl, rfl, rfl⟩
noncomputable def a30 : ACode := (.seq (.reg (
 oo 2 (.mv (.c (Value.string (ByteArray.mk #[])))) ::
oo 3 (.mv z0) :: [])) (.seq (.seq (.reg (
 om 8 0 ::
oc 9 17 [(.t 8)] ::
om 4 9 :: [])) (.seq (.reg (
 om 10 4 ::
oo 11 (.int .neq (.t 10) z0) :: [])) (.cond (.t 11) (.seq (.reg (
 om 12 4 ::
oo 2 (.mv (.c (Value.string (ByteArray.mk #[])))) ::
om 3 12 :: [])) .ret) .skip))) (.seq (.reg (
 oo 5 (.mv (.c (Value.slice none 0 0))) :: [])) (.seq (.seq (.reg (
 om 13 0 ::
oo 14 (.len (.t 13)) ::
oo 15 (.mv z0) :: [])) (.block 0 (.loop (.seq (.reg (
 oo 16 (.int .lss (.t 15) (.t 14)) :: [])) (.seq (.cond (.t 16) .skip (.exit 0)) (.seq (.block 1 (.seq (.reg (
 oo 17 (.ixsl 4 (.t 13) (.t 15)) ::
oo 18 (.loadn 4 (.t 17)) ::
oo 7 (.alloc [k0, k0, k0, k0] 38) ::
oz (.store 4 (.t 7) (.t 18)) :: [])) (.reg (
 om 19 5 ::
oo 20 (.loadn 4 (.t 7)) ::
oc 21 47 [(.t 20)] ::
oo 22 (.bslice [Value.string ByteArray.empty] [(0, 1, (.t 21))] 1 9) ::
oo 23 (.append 9 1 16 (.t 19) (.t 22)) ::
om 5 23 :: [])))) (.reg (
 oo 24 (.int .add (.t 15) z1) ::
om 15 24 :: [])))))))) (.seq (.reg (
 om 25 5 ::
om 26 0 ::
oc 27 49 [(.t 26)] ::
oo 28 (.bslice [k0] [(0, 1, (.t 27))] 1 2) ::
oc 29 63 [(.c (Value.string (ByteArray.mk #[115, 101, 97, 108]))), (.t 28)] ::
oo 30 (.bslice [Value.string ByteArray.empty, Value.string ByteArray.empty] [(0, 1, (.t 29)), (1, 1, (.c (Value.string (ByteArray.mk #[]))))] 2 9) ::
oo 31 (.append 9 1 16 (.t 25) (.t 30)) ::
om 5 31 :: [])) (.seq (.reg (
 om 32 5 ::
oc 33 64 [(.t 32), (.c (Value.string (ByteArray.mk #[10])))] ::
om 2 33 ::
oo 3 (.mv z0) :: [])) .ret))))))
def r30 : List ResultVar := [.tmp 2, .tmp 3]
theorem fun30 : Fun Tryz.prog 30 34 1 a30 r30 :=
  ⟨rfl, Tryz.f30, _, rfl, rfl, rfl, by decide, rfl, rfl, rfl⟩
noncomputable def a31 : ACode := (.seq (.reg (
 oo 2 (.mv (.c (Value.string (ByteArray.mk #[])))) ::
oo 3 (.mv z0) :: [])) (.seq (.seq (.reg (
 om 6 0 ::
oc 7 18 [(.t 6)] ::
oo 8 (.int .neq (.t 7) z0) :: [])) (.cond (.t 8) (.seq (.reg (
 om 9 0 ::
oc 10 18 [(.t 9)] ::
oo 2 (.mv (.c (Value.string (ByteArray.mk #[])))) ::
om 3 10 :: [])) .ret) .skip)) (.seq (.reg (
 oo 4 (.mv (.c (Value.string (ByteArray.mk #[])))) :: [])) (.seq (.seq (.reg (
 oo 5 (.mv z0) :: [])) (.block 0 (.loop (.seq (.seq (.reg (
 om 11 5 ::
om 12 0 ::
oo 13 (.len (.t 12)) ::
oo 14 (.int .lss (.t 11) (.t 13)) :: [])) (.cond (.t 14) .skip (.exit 0))) (.seq (.block 1 (.reg (
 om 17 4 ::
om 18 0 ::
om 19 5 ::
oo 20 (.ixsl 4 (.t 18) (.t 19)) ::
oo 21 (.loadn 4 (.t 20)) ::
oc 22 48 [(.t 21)] ::
oo 23 (.pure (rawOp Tryz.f31 7 6)) ::
oo 24 (.pure (rawOp Tryz.f31 7 7)) ::
om 4 24 :: []))) (.reg (
 om 15 5 ::
oo 16 (.int .add (.t 15) z1) ::
om 5 16 :: []))))))) (.seq (.reg (
 om 25 4 ::
oo 26 (.pure (rawOp Tryz.f31 8 1)) ::
om 27 0 ::
oc 28 50 [(.t 27)] ::
oc 29 65 [(.t 28)] ::
oo 30 (.pure (rawOp Tryz.f31 8 5)) ::
oo 31 (.pure (rawOp Tryz.f31 8 6)) ::
om 2 31 ::
oo 3 (.mv z0) :: [])) .ret)))))
def r31 : List ResultVar := [.tmp 2, .tmp 3]
theorem fun31 : Fun Tryz.prog 31 32 1 a31 r31 :=
  ⟨rfl, Tryz.f31, _, rfl, rfl, rfl, by decide, rfl, rfl, rfl⟩
noncomputable def a32 : ACode := (.seq (.reg (
 oo 2 (.mv (.c (Value.slice none 0 0))) ::
oo 3 (.mv z0) :: [])) (.seq (.seq (.reg (
 om 21 0 ::
oo 22 (.lenstr (.t 21)) ::
oo 23 (.int .gtr (.t 22) (.c (Value.int .i64 65536))) :: [])) (.cond (.t 23) (.seq (.reg (
 oo 2 (.mv (.c (Value.slice none 0 0))) ::
oo 3 (.mv (.c (Value.int .i64 7))) :: [])) .ret) .skip)) (.seq (.reg (
 om 24 0 ::
oc 25 66 [(.t 24), (.c (Value.string (ByteArray.mk #[10])))] ::
om 4 25 :: [])) (.seq (.reg (
 om 26 4 ::
oo 27 (.len (.t 26)) ::
oo 28 (.int .sub (.t 27) (.c (Value.int .i64 2))) ::
om 5 28 :: [])) (.seq (.seq (.reg (
 om 29 5 ::
oo 30 (.int .lss (.t 29) z0) ::
om 31 30 ::
og 32 31 false (.mv (.t 5)) ::
og 33 31 false (.int .gtr (.t 32) (.c (Value.int .i64 60))) ::
oo 34 (.pick (.t 31) (.c (Value.bool true)) (.t 33)) ::
om 35 34 ::
og 36 35 false (.mv (.t 4)) ::
og 37 35 false (.mv (.t 5)) ::
og 38 35 false (.int .add (.t 37) z1) ::
og 39 35 false (.ixsl 1 (.t 36) (.t 38)) ::
og 40 35 false (.load1 (.t 39)) ::
og 41 35 false (.pure (rawOp Tryz.f32 5 12)) ::
oo 42 (.pick (.t 35) (.c (Value.bool true)) (.t 41)) :: [])) (.cond (.t 42) (.seq (.reg (
 oo 2 (.mv (.c (Value.slice none 0 0))) ::
oo 3 (.mv (.c (Value.int .i64 8))) :: [])) .ret) .skip)) (.seq (.reg (
 oo 43 (.mkmap) ::
om 6 43 :: [])) (.seq (.seq (.reg (
 oc 44 67 [] ::
oo 45 (.mv z0) :: [])) (.block 0 (.loop (.seq (.reg (
 oo 46 (.int .lss (.t 45) (.c (Value.int .i64 8))) :: [])) (.seq (.cond (.t 46) .skip (.exit 0)) (.seq (.block 1 (.seq (.reg (
 om 47 45 ::
oo 48 (.ixvn 8 9 (.t 44) (.t 45)) ::
oo 8 (.alloc [Value.string ByteArray.empty, k0, k0, k0, k0, k0, k0, k0, Value.nilFunc] 115) ::
om 7 47 ::
oz (.store 9 (.t 8) (.t 48)) :: [])) (.reg (
 om 49 6 ::
oo 50 (.faddr 0 (.t 8)) ::
oo 51 (.load1 (.t 50)) ::
om 52 7 ::
oz (.mapup 9 (.t 49) (.t 51) (.t 52)) :: [])))) (.reg (
 oo 53 (.int .add (.t 45) z1) ::
om 45 53 :: [])))))))) (.seq (.reg (
 oo 9 (.mv (.c (Value.slice none 0 0))) :: [])) (.seq (.reg (
 oo 10 (.alloc [k0, k0, k0, k0, Value.slice none 0 0] 119) :: [])) (.seq (.reg (
 oo 54 (.build [k0, k0, k0, k0] []) ::
oo 11 (.alloc [k0, k0, k0, k0] 38) ::
oz (.store 4 (.t 11) (.t 54)) :: [])) (.seq (.reg (
 oo 12 (.mv (.c (Value.bool false))) :: [])) (.seq .skip (.seq (.seq (.reg (
 om 55 4 ::
om 56 5 ::
oo 57 (.slsl 1 (.t 55) none (some (.t 56)) none) ::
oo 58 (.len (.t 57)) ::
oo 59 (.mv z0) :: [])) (.block 2 (.loop (.seq (.reg (
 oo 60 (.int .lss (.t 59) (.t 58)) :: [])) (.seq (.cond (.t 60) .skip (.exit 2)) (.seq (.block 3 (.seq (.reg (
 oo 61 (.ixsl 1 (.t 57) (.t 59)) ::
oo 62 (.load1 (.t 61)) ::
om 14 62 :: [])) (.seq (.reg (
 oo 63 (.loadn 4 (.t 11)) ::
oo 64 (.faddr 0 (.t 10)) ::
oz (.store 4 (.t 64) (.t 63)) :: [])) (.seq (.reg (
 om 66 14 ::
oc 67 68 [(.t 10), (.t 66)] ::
om 65 67 ::
oo 68 (.extract (.t 65) 0) ::
oo 69 (.extract (.t 65) 1) ::
om 15 68 ::
om 16 69 :: [])) (.seq (.reg (
 om 71 6 ::
om 72 15 ::
oo 73 (.lookup 9 (k0) true (.t 71) (.t 72)) ::
om 70 73 ::
oo 74 (.extract (.t 70) 0) ::
oo 75 (.extract (.t 70) 1) ::
om 17 74 ::
om 18 75 :: [])) (.seq (.seq (.reg (
 om 76 16 ::
oo 77 (.not (.t 76)) ::
om 78 77 ::
og 79 78 false (.mv (.t 18)) ::
og 80 78 false (.not (.t 79)) ::
oo 81 (.pick (.t 78) (.c (Value.bool true)) (.t 80)) ::
om 82 81 ::
og 83 82 false (.mv (.t 17)) ::
ocg 84 82 false 69 [(.t 10), (.t 83)] ::
og 85 82 false (.not (.t 84)) ::
oo 86 (.pick (.t 82) (.c (Value.bool true)) (.t 85)) ::
om 87 86 ::
og 88 87 false (.faddr 0 (.t 10)) ::
og 89 87 false (.loadn 4 (.t 88)) ::
og 90 87 false (.loadn 4 (.t 11)) ::
og 91 87 false (.pure (rawOp Tryz.f32 23 15)) ::
oo 92 (.pick (.t 87) (.c (Value.bool true)) (.t 91)) :: [])) (.cond (.t 92) (.seq (.reg (
 oo 12 (.mv (.c (Value.bool true))) :: [])) (.exit 2)) .skip)) (.reg (
 om 93 9 ::
oo 94 (.faddr 0 (.t 10)) ::
oo 95 (.loadn 4 (.t 94)) ::
oo 96 (.bslice [k0, k0, k0, k0] [(0, 4, (.t 95))] 1 38) ::
oo 97 (.append 38 4 32 (.t 93) (.t 96)) ::
om 9 97 :: [])))))))) (.reg (
 oo 98 (.int .add (.t 59) z1) ::
om 59 98 :: [])))))))) (.seq (.reg (
 om 100 4 ::
om 101 5 ::
oo 102 (.ixsl 1 (.t 100) (.t 101)) ::
oo 103 (.load1 (.t 102)) ::
oc 104 68 [(.t 10), (.t 103)] ::
om 99 104 ::
oo 105 (.extract (.t 99) 0) ::
oo 106 (.extract (.t 99) 1) ::
om 19 105 ::
om 20 106 :: [])) (.seq (.seq (.reg (
 om 107 12 ::
om 108 107 ::
og 109 108 false (.mv (.t 20)) ::
og 110 108 false (.not (.t 109)) ::
oo 111 (.pick (.t 108) (.c (Value.bool true)) (.t 110)) ::
om 112 111 ::
og 113 112 false (.mv (.t 19)) ::
og 114 112 false (.pure (rawOp Tryz.f32 28 7)) ::
oo 115 (.pick (.t 112) (.c (Value.bool true)) (.t 114)) ::
om 116 115 ::
og 117 116 false (.faddr 4 (.t 10)) ::
og 118 116 false (.load1 (.t 117)) ::
og 119 116 false (.len (.t 118)) ::
og 120 116 false (.int .neq (.t 119) z1) ::
oo 121 (.pick (.t 116) (.c (Value.bool true)) (.t 120)) ::
om 122 121 ::
og 123 122 false (.faddr 4 (.t 10)) ::
og 124 122 false (.load1 (.t 123)) ::
og 125 122 false (.ixsl 1 (.t 124) z0) ::
og 126 122 false (.load1 (.t 125)) ::
ocg 127 122 false 53 [(.t 126)] ::
og 128 122 false (.not (.t 127)) ::
oo 129 (.pick (.t 122) (.c (Value.bool true)) (.t 128)) :: [])) (.cond (.t 129) (.seq (.reg (
 oo 2 (.mv (.c (Value.slice none 0 0))) ::
oo 3 (.mv (.c (Value.int .i64 8))) :: [])) .ret) .skip)) (.seq (.seq (.dreg (
 oo 130 (.faddr 4 (.t 10)) ::
oo 131 (.load1 (.t 130)) ::
oo 132 (.ixsl 1 (.t 131) z0) ::
oo 133 (.load1 (.t 132)) ::
om 134 9 ::
oc 135 49 [(.t 134)] ::
oo 136 (.int .neq (.t 133) (.t 135)) :: []) []) (.cond (.t 136) (.seq (.reg (
 oo 2 (.mv (.c (Value.slice none 0 0))) ::
oo 3 (.mv (.c (Value.int .i64 14))) :: [])) .ret) .skip)) (.seq (.reg (
 om 137 9 ::
om 2 137 ::
oo 3 (.mv z0) :: [])) .ret)))))))))))))))))
def r32 : List ResultVar := [.tmp 2, .tmp 3]
theorem fun32 : Fun Tryz.prog 32 138 1 a32 r32 :=
  ⟨rfl, Tryz.f32, _, rfl, rfl, rfl, by decide, rfl, rfl, rfl⟩
noncomputable def a33 : ACode := (.seq (.reg (
 oo 2 (.mv (.c (Value.slice none 0 0))) ::
oo 3 (.mv z0) :: [])) (.seq (.seq (.reg (
 om 11 0 ::
oo 12 (.lenstr (.t 11)) ::
oo 13 (.int .gtr (.t 12) (.c (Value.int .i64 65536))) :: [])) (.cond (.t 13) (.seq (.reg (
 oo 2 (.mv (.c (Value.slice none 0 0))) ::
oo 3 (.mv (.c (Value.int .i64 7))) :: [])) .ret) .skip)) (.seq (.reg (
 om 14 0 ::
oc 15 70 [(.t 14), (.c (Value.int .u8 10))] ::
om 4 15 :: [])) (.seq (.reg (
 om 16 4 ::
oo 17 (.len (.t 16)) ::
om 5 17 :: [])) (.seq (.seq (.reg (
 om 18 5 ::
oo 19 (.int .lss (.t 18) (.c (Value.int .i64 2))) ::
om 20 19 ::
og 21 20 false (.mv (.t 5)) ::
og 22 20 false (.int .gtr (.t 21) (.c (Value.int .i64 62))) ::
oo 23 (.pick (.t 20) (.c (Value.bool true)) (.t 22)) ::
om 24 23 ::
og 25 24 false (.mv (.t 4)) ::
og 26 24 false (.mv (.t 5)) ::
og 27 24 false (.int .sub (.t 26) z1) ::
og 28 24 false (.ixsl 1 (.t 25) (.t 27)) ::
og 29 24 false (.load1 (.t 28)) ::
og 30 24 false (.pure (rawOp Tryz.f33 5 12)) ::
oo 31 (.pick (.t 24) (.c (Value.bool true)) (.t 30)) :: [])) (.cond (.t 31) (.seq (.reg (
 oo 2 (.mv (.c (Value.slice none 0 0))) ::
oo 3 (.mv (.c (Value.int .i64 8))) :: [])) .ret) .skip)) (.seq (.reg (
 oo 6 (.mv (.c (Value.slice none 0 0))) :: [])) (.seq (.seq (.reg (
 oo 7 (.mv z0) :: [])) (.block 0 (.loop (.seq (.seq (.reg (
 om 32 7 ::
oo 33 (.int .add (.t 32) (.c (Value.int .i64 2))) ::
om 34 5 ::
oo 35 (.int .lss (.t 33) (.t 34)) :: [])) (.cond (.t 35) .skip (.exit 0))) (.seq (.block 1 (.seq (.reg (
 om 39 4 ::
om 40 7 ::
oo 41 (.ixsl 1 (.t 39) (.t 40)) ::
oo 42 (.load1 (.t 41)) ::
oc 43 70 [(.t 42), (.c (Value.int .u8 32))] ::
oc 44 71 [(.t 43)] ::
om 38 44 ::
oo 45 (.extract (.t 38) 0) ::
oo 46 (.extract (.t 38) 1) ::
oo 8 (.alloc [k0, k0, k0, k0] 38) ::
oz (.store 4 (.t 8) (.t 45)) ::
om 9 46 :: [])) (.seq (.seq (.reg (
 om 47 9 ::
oo 48 (.not (.t 47)) :: [])) (.cond (.t 48) (.seq (.reg (
 oo 2 (.mv (.c (Value.slice none 0 0))) ::
oo 3 (.mv (.c (Value.int .i64 8))) :: [])) .ret) .skip)) (.reg (
 om 49 6 ::
oo 50 (.loadn 4 (.t 8)) ::
oo 51 (.bslice [k0, k0, k0, k0] [(0, 4, (.t 50))] 1 38) ::
oo 52 (.append 38 4 32 (.t 49) (.t 51)) ::
om 6 52 :: []))))) (.reg (
 om 36 7 ::
oo 37 (.int .add (.t 36) z1) ::
om 7 37 :: []))))))) (.seq (.reg (
 om 53 4 ::
om 54 5 ::
oo 55 (.int .sub (.t 54) (.c (Value.int .i64 2))) ::
oo 56 (.ixsl 1 (.t 53) (.t 55)) ::
oo 57 (.load1 (.t 56)) ::
oc 58 70 [(.t 57), (.c (Value.int .u8 32))] ::
om 10 58 :: [])) (.seq (.seq (.reg (
 om 59 6 ::
oc 60 18 [(.t 59)] ::
oo 61 (.int .neq (.t 60) z0) ::
om 62 61 ::
og 63 62 false (.mv (.t 10)) ::
og 64 62 false (.len (.t 63)) ::
og 65 62 false (.int .neq (.t 64) (.c (Value.int .i64 2))) ::
oo 66 (.pick (.t 62) (.c (Value.bool true)) (.t 65)) ::
om 67 66 ::
og 68 67 false (.mv (.t 10)) ::
og 69 67 false (.ixsl 1 (.t 68) z0) ::
og 70 67 false (.load1 (.t 69)) ::
og 71 67 false (.pure (rawOp Tryz.f33 16 12)) ::
oo 72 (.pick (.t 67) (.c (Value.bool true)) (.t 71)) ::
om 73 72 ::
og 74 73 false (.mv (.t 10)) ::
og 75 73 false (.ixsl 1 (.t 74) z1) ::
og 76 73 false (.load1 (.t 75)) ::
ocg 77 73 false 72 [(.t 76)] ::
ocg 78 73 false 59 [(.t 77), z0, (.c (Value.int .i64 2147483646))] ::
og 79 73 false (.not (.t 78)) ::
oo 80 (.pick (.t 73) (.c (Value.bool true)) (.t 79)) :: [])) (.cond (.t 80) (.seq (.reg (
 oo 2 (.mv (.c (Value.slice none 0 0))) ::
oo 3 (.mv (.c (Value.int .i64 8))) :: [])) .ret) .skip)) (.seq (.seq (.reg (
 om 81 10 ::
oo 82 (.ixsl 1 (.t 81) z1) ::
oo 83 (.load1 (.t 82)) ::
oc 84 72 [(.t 83)] ::
om 85 6 ::
oc 86 50 [(.t 85)] ::
oo 87 (.int .neq (.t 84) (.t 86)) :: [])) (.cond (.t 87) (.seq (.reg (
 oo 2 (.mv (.c (Value.slice none 0 0))) ::
oo 3 (.mv (.c (Value.int .i64 14))) :: [])) .ret) .skip)) (.seq (.reg (
 om 88 6 ::
om 2 88 ::
oo 3 (.mv z0) :: [])) .ret)))))))))))
def r33 : List ResultVar := [.tmp 2, .tmp 3]
theorem fun33 : Fun Tryz.prog 33 89 1 a33 r33 :=
  ⟨rfl, Tryz.f33, _, rfl, rfl, rfl, by decide, rfl, rfl, rfl⟩
noncomputable def a34 : ACode := (.seq (.reg (
 oo 4 (.mv (.c (Value.bool false))) :: [])) (.seq (.seq (.reg (
 om 6 0 ::
oo 7 (.len (.t 6)) ::
om 8 1 ::
oo 9 (.len (.t 8)) ::
oo 10 (.int .neq (.t 7) (.t 9)) :: [])) (.cond (.t 10) (.seq (.reg (
 oo 4 (.mv (.c (Value.bool false))) :: [])) .ret) .skip)) (.seq (.seq (.reg (
 oo 5 (.mv z0) :: [])) (.block 0 (.loop (.seq (.seq (.reg (
 om 11 5 ::
om 12 0 ::
oo 13 (.len (.t 12)) ::
oo 14 (.int .lss (.t 11) (.t 13)) :: [])) (.cond (.t 14) .skip (.exit 0))) (.seq (.block 1 (.seq (.dreg (
 om 17 0 ::
om 18 5 ::
oo 19 (.ixsl 4 (.t 17) (.t 18)) ::
oo 20 (.loadn 4 (.t 19)) ::
om 21 1 ::
om 22 5 ::
oo 23 (.ixsl 4 (.t 21) (.t 22)) ::
oo 24 (.loadn 4 (.t 23)) ::
oo 25 (.pure (rawOp Tryz.f34 6 8)) :: []) []) (.cond (.t 25) (.seq (.reg (
 oo 4 (.mv (.c (Value.bool false))) :: [])) .ret) .skip))) (.reg (
 om 15 5 ::
oo 16 (.int .add (.t 15) z1) ::
om 5 16 :: []))))))) (.seq (.reg (
 oo 4 (.mv (.c (Value.bool true))) :: [])) .ret))))
def r34 : List ResultVar := [.tmp 4]
theorem fun34 : Fun Tryz.prog 34 26 2 a34 r34 :=
  ⟨rfl, Tryz.f34, _, rfl, rfl, rfl, by decide, rfl, rfl, rfl⟩
noncomputable def a35 : ACode := (.seq (.reg (
 oo 2 (.mv (.c (Value.bool false))) :: [])) (.seq (.reg (
 om 3 0 ::
oo 4 (.len (.t 3)) ::
oo 5 (.int .leq (.t 4) (.c (Value.int .i64 70))) ::
om 6 5 ::
og 7 6 true (.mv (.t 0)) ::
ocg 8 6 true 18 [(.t 7)] ::
og 9 6 true (.int .eql (.t 8) z0) ::
oo 10 (.pick (.t 6) (.t 9) (.c (Value.bool false))) ::
om 2 10 :: [])) .ret))
noncomputable def a36 : ACode := (.seq (.reg (
 oo 4 (.mv (.c (Value.bool false))) :: [])) (.seq (.seq (.reg (
 om 7 0 ::
oo 8 (.lenstr (.t 7)) ::
om 9 1 ::
oo 10 (.lenstr (.t 9)) ::
oo 11 (.int .neq (.t 8) (.t 10)) :: [])) (.cond (.t 11) (.seq (.reg (
 oo 4 (.mv (.c (Value.bool false))) :: [])) .ret) .skip)) (.seq (.reg (
 oo 5 (.mv z0) :: [])) (.seq (.seq (.reg (
 oo 6 (.mv z0) :: [])) (.block 0 (.loop (.seq (.seq (.reg (
 om 12 6 ::
om 13 0 ::
oo 14 (.lenstr (.t 13)) ::
oo 15 (.int .lss (.t 12) (.t 14)) :: [])) (.cond (.t 15) .skip (.exit 0))) (.seq (.block 1 (.seq (.dreg (
 om 18 0 ::
om 19 6 ::
oo 20 (.pure (rawOp Tryz.f36 7 2)) ::
om 21 1 ::
om 22 6 ::
oo 23 (.pure (rawOp Tryz.f36 7 5)) ::
oo 24 (.pure (rawOp Tryz.f36 7 6)) :: []) []) (.cond (.t 24) (.reg (
 om 25 5 ::
oo 26 (.int .add (.t 25) z1) ::
om 5 26 :: [])) .skip))) (.reg (
 om 16 6 ::
oo 17 (.int .add (.t 16) z1) ::
om 6 17 :: []))))))) (.seq (.reg (
 om 27 5 ::
oo 28 (.int .eql (.t 27) z1) ::
om 4 28 :: [])) .ret)))))
noncomputable def a37 : ACode := (.seq (.reg (
 oo 6 (.mv z0) :: [])) (.seq (.reg (
 oo 7 (.mv z0) ::
oo 8 (.mv z0) :: [])) (.seq (.seq (.reg (
 oo 9 (.mv z0) :: [])) (.block 0 (.loop (.seq (.seq (.reg (
 om 10 9 ::
om 11 0 ::
oo 12 (.len (.t 11)) ::
oo 13 (.int .lss (.t 10) (.t 12)) :: [])) (.cond (.t 13) .skip (.exit 0))) (.seq (.block 1 (.seq (.seq (.reg (
 om 16 1 ::
om 17 9 ::
oo 18 (.ixsl 1 (.t 16) (.t 17)) ::
oo 19 (.load1 (.t 18)) ::
oo 20 (.int .neq (.t 19) z0) ::
om 21 20 ::
og 22 21 false (.mv (.t 0)) ::
og 23 21 false (.mv (.t 9)) ::
og 24 21 false (.ixsl 4 (.t 22) (.t 23)) ::
og 25 21 false (.faddr 1 (.t 24)) ::
og 26 21 false (.load1 (.t 25)) ::
og 27 21 false (.mv (.t 2)) ::
og 28 21 false (.int .neq (.t 26) (.t 27)) ::
oo 29 (.pick (.t 21) (.c (Value.bool true)) (.t 28)) :: [])) (.cond (.t 29) (.exit 1) .skip)) (.seq (.seq (.reg (
 om 30 0 ::
om 31 9 ::
oo 32 (.ixsl 4 (.t 30) (.t 31)) ::
oo 33 (.faddr 0 (.t 32)) ::
oo 34 (.load1 (.t 33)) ::
oo 35 (.int .eql (.t 34) (.c (Value.int .i64 3))) :: [])) (.cond (.t 35) (.reg (
 om 36 7 ::
oo 37 (.int .add (.t 36) z1) ::
om 7 37 :: [])) .skip)) (.seq (.reg (
 om 38 0 ::
om 39 9 ::
oo 40 (.ixsl 4 (.t 38) (.t 39)) ::
oo 41 (.faddr 0 (.t 40)) ::
oo 42 (.load1 (.t 41)) ::
oo 43 (.int .eql (.t 42) (.c (Value.int .i64 5))) :: [])) (.cond (.t 43) (.seq (.reg (
 om 44 8 ::
om 45 7 ::
om 46 0 ::
om 47 9 ::
oo 48 (.ixsl 4 (.t 46) (.t 47)) ::
oo 49 (.faddr 2 (.t 48)) ::
oo 50 (.load1 (.t 49)) ::
oo 51 (.int .mul (.t 45) (.t 50)) ::
oo 52 (.int .add (.t 44) (.t 51)) ::
om 8 52 :: [])) (.reg (
 oo 7 (.mv z0) :: []))) .skip))))) (.reg (
 om 14 9 ::
oo 15 (.int .add (.t 14) z1) ::
om 9 15 :: []))))))) (.seq (.reg (
 om 53 8 ::
om 6 53 :: [])) .ret))))
noncomputable def a38 : ACode := (.seq (.reg (
 oo 0 (.mv (.c (Value.slice none 0 0))) :: [])) (.seq (.reg (
 oc 1 39 [z0, z0, (.c (Value.int .i64 1000)), z0] ::
oc 2 39 [z1, (.c (Value.int .i64 7)), (.c (Value.int .i64 600)), (.c (Value.int .i64 50))] ::
oc 3 39 [(.c (Value.int .i64 2)), (.c (Value.int .i64 7)), z0, z0] ::
oc 4 39 [(.c (Value.int .i64 3)), (.c (Value.int .i64 7)), (.c (Value.int .i64 1500)), (.c (Value.int .i64 32))] ::
oc 5 39 [(.c (Value.int .i64 5)), (.c (Value.int .i64 7)), (.c (Value.int .i64 100)), z0] ::
oc 6 39 [(.c (Value.int .i64 6)), (.c (Value.int .i64 7)), (.c (Value.int .i64 60)), z0] ::
oc 7 39 [(.c (Value.int .i64 7)), (.c (Value.int .i64 7)), (.c (Value.int .i64 3)), z0] ::
oc 8 39 [(.c (Value.int .i64 3)), (.c (Value.int .i64 7)), (.c (Value.int .i64 1600)), (.c (Value.int .i64 40))] ::
oc 9 39 [(.c (Value.int .i64 4)), (.c (Value.int .i64 7)), z0, z0] ::
oc 10 39 [(.c (Value.int .i64 3)), (.c (Value.int .i64 7)), (.c (Value.int .i64 1700)), (.c (Value.int .i64 50))] ::
oc 11 39 [z1, (.c (Value.int .i64 7)), (.c (Value.int .i64 5)), (.c (Value.int .i64 5))] ::
oc 12 39 [(.c (Value.int .i64 2)), (.c (Value.int .i64 8)), z0, z0] ::
oo 13 (.bslice [k0, k0, k0, k0, k0, k0, k0, k0, k0, k0, k0, k0, k0, k0, k0, k0, k0, k0, k0, k0, k0, k0, k0, k0, k0, k0, k0, k0, k0, k0, k0, k0, k0, k0, k0, k0, k0, k0, k0, k0, k0, k0, k0, k0, k0, k0, k0, k0] [(0, 4, (.t 1)), (4, 4, (.t 2)), (8, 4, (.t 3)), (12, 4, (.t 4)), (16, 4, (.t 5)), (20, 4, (.t 6)), (24, 4, (.t 7)), (28, 4, (.t 8)), (32, 4, (.t 9)), (36, 4, (.t 10)), (40, 4, (.t 11)), (44, 4, (.t 12))] 12 38) ::
om 0 13 :: [])) .ret))
def r38 : List ResultVar := [.tmp 0]
theorem fun38 : Fun Tryz.prog 38 14 0 a38 r38 :=
  ⟨rfl, Tryz.f38, _, rfl, rfl, rfl, by decide, rfl, rfl, rfl⟩
noncomputable def a39 : ACode := (.seq (.reg (
 oo 8 (.alloc [k0, k0, k0, k0] 38) :: [])) (.seq (.reg (
 om 9 0 ::
om 10 1 ::
om 11 2 ::
om 12 3 ::
oo 13 (.build [k0, k0, k0, k0] [(0, 1, (.t 9)), (1, 1, (.t 10)), (2, 1, (.t 11)), (3, 1, (.t 12))]) ::
oz (.store 4 (.t 8) (.t 13)) :: [])) .ret))
def r39 : List ResultVar := [.cell 8 38]
theorem fun39 : Fun Tryz.prog 39 14 4 a39 r39 :=
  ⟨rfl, Tryz.f39, _, rfl, rfl, rfl, by decide, rfl, rfl, rfl⟩
noncomputable def a40 : ACode := (.seq (.reg (
 oo 2 (.mv (.c (Value.pointer none))) ::
oo 3 (.mv (.c (Value.slice none 0 0))) ::
oo 4 (.mv z0) :: [])) (.seq (.seq (.reg (
 om 13 0 ::
oc 14 17 [(.t 13)] ::
om 5 14 :: [])) (.seq (.reg (
 om 15 5 ::
oo 16 (.int .neq (.t 15) z0) :: [])) (.cond (.t 16) (.seq (.reg (
 om 17 5 ::
oo 2 (.mv (.c (Value.pointer none))) ::
oo 3 (.mv (.c (Value.slice none 0 0))) ::
om 4 17 :: [])) .ret) .skip))) (.seq (.reg (
 oo 18 (.mkmap) ::
oo 19 (.mkmap) ::
oo 20 (.mkmap) ::
oo 21 (.build [k0, k0, Value.map none, Value.map none, Value.map none] [(2, 1, (.t 18)), (3, 1, (.t 19)), (4, 1, (.t 20))]) ::
oo 22 (.box (.t 21) 80) ::
om 6 22 :: [])) (.seq (.reg (
 om 23 0 ::
oo 24 (.len (.t 23)) ::
oo 25 (.mkslice [k0] 8 25 (.t 24) (.t 24)) ::
om 7 25 :: [])) (.seq (.seq (.reg (
 om 26 0 ::
oo 27 (.len (.t 26)) ::
oo 28 (.mv z0) :: [])) (.block 0 (.loop (.seq (.reg (
 oo 29 (.int .lss (.t 28) (.t 27)) :: [])) (.seq (.cond (.t 29) .skip (.exit 0)) (.seq (.block 1 (.seq (.reg (
 om 30 28 ::
oo 31 (.ixsl 4 (.t 26) (.t 28)) ::
oo 32 (.loadn 4 (.t 31)) ::
oo 9 (.alloc [k0, k0, k0, k0] 38) ::
om 8 30 ::
oz (.store 4 (.t 9) (.t 32)) :: [])) (.seq (.reg (
 om 33 6 ::
oo 34 (.loadn 4 (.t 9)) ::
om 35 8 ::
oc 36 73 [(.t 33), (.t 34), (.t 35)] :: [])) (.block 2 (.seq (.reg (
 oo 43 (.pure (rawOp Tryz.f40 12 0)) :: [])) (.cond (.t 43) (.reg (
 om 10 36 :: [])) (.seq (.reg (
 oo 44 (.tass 131 (Value.agg #[]) true (.t 36)) ::
oo 45 (.extract (.t 44) 1) ::
oo 46 (.extract (.t 44) 0) :: [])) (.cond (.t 45) (.seq (.reg (
 oo 11 (.alloc [] 131) ::
oz (.store 0 (.t 11) (.t 46)) :: [])) (.reg (
 om 47 7 ::
om 48 8 ::
oo 49 (.ixsl 1 (.t 47) (.t 48)) ::
oz (.store 1 (.t 49) (.c (Value.int .i64 5))) :: []))) (.seq (.reg (
 om 12 36 :: [])) (.reg (
 om 37 7 ::
om 38 8 ::
om 39 12 ::
oo 40 (.tiface 128 (.t 39)) ::
⟨(some 41), none, (.call (.m 40 "tumblehome/clerk.why") [])⟩ ::
oo 42 (.ixsl 1 (.t 37) (.t 38)) ::
oz (.store 1 (.t 42) (.t 41)) :: []))))))))))) (.reg (
 oo 50 (.int .add (.t 28) z1) ::
om 28 50 :: [])))))))) (.seq (.reg (
 om 51 6 ::
om 52 7 ::
om 2 51 ::
om 3 52 ::
oo 4 (.mv z0) :: [])) .ret))))))
def r40 : List ResultVar := [.tmp 2, .tmp 3, .tmp 4]
theorem fun40 : Fun Tryz.prog 40 53 1 a40 r40 :=
  ⟨rfl, Tryz.f40, _, rfl, rfl, rfl, by decide, rfl, rfl, rfl⟩
noncomputable def a42 : ACode := (.seq (.reg (
 oo 2 (.mv (.c (Value.slice none 0 0))) :: [])) (.seq (.reg (
 oo 3 (.mv (.c (Value.slice none 0 0))) :: [])) (.seq (.seq (.reg (
 om 6 0 ::
oc 7 76 [(.t 6)] ::
oc 8 75 [(.t 7)] ::
oo 9 (.len (.t 8)) ::
oo 10 (.mv z0) :: [])) (.block 0 (.loop (.seq (.reg (
 oo 11 (.int .lss (.t 10) (.t 9)) :: [])) (.seq (.cond (.t 11) .skip (.exit 0)) (.seq (.block 1 (.seq (.reg (
 oo 12 (.ixsl 1 (.t 8) (.t 10)) ::
oo 13 (.load1 (.t 12)) ::
om 5 13 :: [])) (.reg (
 om 14 3 ::
om 15 0 ::
om 16 5 ::
oo 17 (.lookup 2 (Value.pointer none) false (.t 15) (.t 16)) ::
oo 18 (.bslice [Value.pointer none] [(0, 1, (.t 17))] 1 83) ::
oo 19 (.append 83 1 8 (.t 14) (.t 18)) ::
om 3 19 :: [])))) (.reg (
 oo 20 (.int .add (.t 10) z1) ::
om 10 20 :: [])))))))) (.seq (.reg (
 om 21 3 ::
om 2 21 :: [])) .ret))))
def r42 : List ResultVar := [.tmp 2]
theorem fun42 : Fun Tryz.prog 42 22 1 a42 r42 :=
  ⟨rfl, Tryz.f42, _, rfl, rfl, rfl, by decide, rfl, rfl, rfl⟩
noncomputable def a43 : ACode := (.seq (.reg (
 oo 4 (.mv (.c (Value.bool false))) :: [])) (.seq (.reg (
 om 5 0 ::
om 6 1 ::
oc 7 77 [(.t 5), (.t 6)] ::
oo 8 (.int .geq (.t 7) z0) ::
om 4 8 :: [])) .ret))
def r43 : List ResultVar := [.tmp 4]
theorem fun43 : Fun Tryz.prog 43 9 2 a43 r43 :=
  ⟨rfl, Tryz.f43, _, rfl, rfl, rfl, by decide, rfl, rfl, rfl⟩
noncomputable def a44 : ACode := (.seq (.reg (
 oo 1 (.box (.t 0) 38) ::
oo 2 (.mv (.c (Value.bool false))) :: [])) (.seq (.reg (
 oo 3 (.loadn 4 (.t 1)) ::
oc 4 45 [(.t 3)] ::
oo 5 (.not (.t 4)) ::
om 2 5 :: [])) .ret))
def r44 : List ResultVar := [.tmp 2]
theorem fun44 : Fun Tryz.prog 44 6 1 a44 r44 :=
  ⟨rfl, Tryz.f44, _, rfl, rfl, rfl, by decide, rfl, rfl, rfl⟩
noncomputable def a45 : ACode := (.seq (.reg (
 oo 1 (.box (.t 0) 38) ::
oo 2 (.mv (.c (Value.bool false))) :: [])) (.seq (.seq (.reg (
 oo 4 (.faddr 0 (.t 1)) ::
oo 5 (.load1 (.t 4)) ::
oo 6 (.int .lss (.t 5) z0) ::
om 7 6 ::
og 8 7 false (.faddr 0 (.t 1)) ::
og 9 7 false (.load1 (.t 8)) ::
og 10 7 false (.int .gtr (.t 9) (.c (Value.int .i64 7))) ::
oo 11 (.pick (.t 7) (.c (Value.bool true)) (.t 10)) :: [])) (.cond (.t 11) (.seq (.reg (
 oo 2 (.mv (.c (Value.bool false))) :: [])) .ret) .skip)) (.seq (.dreg (
 oc 12 67 [] ::
oo 13 (.faddr 0 (.t 1)) ::
oo 14 (.load1 (.t 13)) ::
oo 15 (.ixvn 8 9 (.t 12) (.t 14)) ::
oo 3 (.alloc [Value.string ByteArray.empty, k0, k0, k0, k0, k0, k0, k0, Value.nilFunc] 115) ::
oz (.store 9 (.t 3) (.t 15)) :: []) []) (.seq (.reg (
 oo 16 (.faddr 1 (.t 1)) ::
oo 17 (.load1 (.t 16)) ::
oo 18 (.faddr 1 (.t 3)) ::
oo 19 (.faddr 0 (.t 18)) ::
oo 20 (.load1 (.t 19)) ::
oo 21 (.faddr 1 (.t 3)) ::
oo 22 (.faddr 1 (.t 21)) ::
oo 23 (.load1 (.t 22)) ::
oc 24 78 [(.t 17), (.t 20), (.t 23)] ::
om 25 24 ::
og 26 25 true (.faddr 2 (.t 1)) ::
og 27 25 true (.load1 (.t 26)) ::
og 28 25 true (.faddr 3 (.t 3)) ::
og 29 25 true (.faddr 0 (.t 28)) ::
og 30 25 true (.load1 (.t 29)) ::
og 31 25 true (.faddr 3 (.t 3)) ::
og 32 25 true (.faddr 1 (.t 31)) ::
og 33 25 true (.load1 (.t 32)) ::
ocg 34 25 true 78 [(.t 27), (.t 30), (.t 33)] ::
oo 35 (.pick (.t 25) (.t 34) (.c (Value.bool false))) ::
om 36 35 ::
og 37 36 true (.faddr 3 (.t 1)) ::
og 38 36 true (.load1 (.t 37)) ::
og 39 36 true (.faddr 5 (.t 3)) ::
og 40 36 true (.faddr 0 (.t 39)) ::
og 41 36 true (.load1 (.t 40)) ::
og 42 36 true (.faddr 5 (.t 3)) ::
og 43 36 true (.faddr 1 (.t 42)) ::
og 44 36 true (.load1 (.t 43)) ::
ocg 45 36 true 78 [(.t 38), (.t 41), (.t 44)] ::
oo 46 (.pick (.t 36) (.t 45) (.c (Value.bool false))) ::
om 2 46 :: [])) .ret))))
def r45 : List ResultVar := [.tmp 2]
theorem fun45 : Fun Tryz.prog 45 47 1 a45 r45 :=
  ⟨rfl, Tryz.f45, _, rfl, rfl, rfl, by decide, rfl, rfl, rfl⟩
noncomputable def a46 : ACode := (.seq (.reg (
 oo 1 (.box (.t 0) 38) ::
oo 2 (.mv (.c (Value.bool false))) :: [])) (.seq (.seq (.reg (
 oo 3 (.faddr 0 (.t 1)) ::
oo 4 (.load1 (.t 3)) ::
oo 5 (.int .eql (.t 4) z0) :: [])) (.cond (.t 5) (.seq (.reg (
 oo 6 (.faddr 1 (.t 1)) ::
oo 7 (.load1 (.t 6)) ::
oo 8 (.int .eql (.t 7) z0) ::
om 9 8 ::
og 10 9 true (.faddr 2 (.t 1)) ::
og 11 9 true (.load1 (.t 10)) ::
ocg 12 9 true 59 [(.t 11), z1, (.c (Value.int .i64 1000000))] ::
oo 13 (.pick (.t 9) (.t 12) (.c (Value.bool false))) ::
om 14 13 ::
og 15 14 true (.faddr 3 (.t 1)) ::
og 16 14 true (.load1 (.t 15)) ::
og 17 14 true (.int .eql (.t 16) z0) ::
oo 18 (.pick (.t 14) (.t 17) (.c (Value.bool false))) ::
om 2 18 :: [])) .ret) .skip)) (.seq (.seq (.reg (
 oo 19 (.faddr 1 (.t 1)) ::
oo 20 (.load1 (.t 19)) ::
oc 21 59 [(.t 20), z1, (.c (Value.int .i64 1099511627776))] ::
oo 22 (.not (.t 21)) :: [])) (.cond (.t 22) (.seq (.reg (
 oo 2 (.mv (.c (Value.bool false))) :: [])) .ret) .skip)) (.seq (.seq (.reg (
 oo 23 (.faddr 0 (.t 1)) ::
oo 24 (.load1 (.t 23)) :: [])) (.block 0 (.seq (.reg (
 oo 26 (.int .eql (.t 24) z1) ::
om 25 26 :: [])) (.cond (.t 25) (.seq (.reg (
 oo 27 (.faddr 2 (.t 1)) ::
oo 28 (.load1 (.t 27)) ::
oc 29 59 [(.t 28), z1, (.c (Value.int .i64 1000000))] ::
om 30 29 ::
og 31 30 true (.faddr 3 (.t 1)) ::
og 32 30 true (.load1 (.t 31)) ::
ocg 33 30 true 59 [(.t 32), z0, (.c (Value.int .i64 1000))] ::
oo 34 (.pick (.t 30) (.t 33) (.c (Value.bool false))) ::
om 2 34 :: [])) .ret) (.seq (.seq (.reg (
 oo 36 (.int .eql (.t 24) (.c (Value.int .i64 2))) ::
om 35 36 :: [])) (.cond (.t 35) .skip (.reg (
 oo 37 (.int .eql (.t 24) (.c (Value.int .i64 4))) ::
om 35 37 :: [])))) (.cond (.t 35) (.seq (.reg (
 oo 38 (.faddr 2 (.t 1)) ::
oo 39 (.load1 (.t 38)) ::
oo 40 (.int .eql (.t 39) z0) ::
om 41 40 ::
og 42 41 true (.faddr 3 (.t 1)) ::
og 43 41 true (.load1 (.t 42)) ::
og 44 41 true (.int .eql (.t 43) z0) ::
oo 45 (.pick (.t 41) (.t 44) (.c (Value.bool false))) ::
om 2 45 :: [])) .ret) (.seq (.reg (
 oo 47 (.int .eql (.t 24) (.c (Value.int .i64 3))) ::
om 46 47 :: [])) (.cond (.t 46) (.seq (.reg (
 oo 48 (.faddr 2 (.t 1)) ::
oo 49 (.load1 (.t 48)) ::
oc 50 59 [(.t 49), z1, (.c (Value.int .i64 1000000))] ::
om 51 50 ::
og 52 51 true (.faddr 3 (.t 1)) ::
og 53 51 true (.load1 (.t 52)) ::
ocg 54 51 true 59 [(.t 53), z0, (.c (Value.int .i64 1000000))] ::
oo 55 (.pick (.t 51) (.t 54) (.c (Value.bool false))) ::
om 2 55 :: [])) .ret) (.seq (.reg (
 oo 57 (.int .eql (.t 24) (.c (Value.int .i64 5))) ::
om 56 57 :: [])) (.cond (.t 56) (.seq (.reg (
 oo 58 (.faddr 2 (.t 1)) ::
oo 59 (.load1 (.t 58)) ::
oc 60 59 [(.t 59), z1, (.c (Value.int .i64 1000000))] ::
om 61 60 ::
og 62 61 true (.faddr 3 (.t 1)) ::
og 63 61 true (.load1 (.t 62)) ::
og 64 61 true (.int .eql (.t 63) z0) ::
oo 65 (.pick (.t 61) (.t 64) (.c (Value.bool false))) ::
om 2 65 :: [])) .ret) (.seq (.reg (
 oo 67 (.int .eql (.t 24) (.c (Value.int .i64 6))) ::
om 66 67 :: [])) (.cond (.t 66) (.seq (.reg (
 oo 68 (.faddr 2 (.t 1)) ::
oo 69 (.load1 (.t 68)) ::
oc 70 59 [(.t 69), z1, (.c (Value.int .i64 1000000000))] ::
om 71 70 ::
og 72 71 true (.faddr 3 (.t 1)) ::
og 73 71 true (.load1 (.t 72)) ::
og 74 71 true (.int .eql (.t 73) z0) ::
oo 75 (.pick (.t 71) (.t 74) (.c (Value.bool false))) ::
om 2 75 :: [])) .ret) (.seq (.reg (
 oo 77 (.int .eql (.t 24) (.c (Value.int .i64 7))) ::
om 76 77 :: [])) (.cond (.t 76) (.seq (.reg (
 oo 78 (.faddr 2 (.t 1)) ::
oo 79 (.load1 (.t 78)) ::
oc 80 59 [(.t 79), z0, (.c (Value.int .i64 59))] ::
om 81 80 ::
og 82 81 true (.faddr 3 (.t 1)) ::
og 83 81 true (.load1 (.t 82)) ::
og 84 81 true (.int .eql (.t 83) z0) ::
oo 85 (.pick (.t 81) (.t 84) (.c (Value.bool false))) ::
om 2 85 :: [])) .ret) .skip)))))))))))))) (.seq (.reg (
 oo 2 (.mv (.c (Value.bool false))) :: [])) .ret)))))
def r46 : List ResultVar := [.tmp 2]
theorem fun46 : Fun Tryz.prog 46 86 1 a46 r46 :=
  ⟨rfl, Tryz.f46, _, rfl, rfl, rfl, by decide, rfl, rfl, rfl⟩
noncomputable def a47 : ACode := (.seq (.reg (
 oo 1 (.box (.t 0) 38) ::
oo 2 (.mv (.c (Value.string (ByteArray.mk #[])))) :: [])) (.seq (.dreg (
 oc 5 67 [] ::
oo 6 (.faddr 0 (.t 1)) ::
oo 7 (.load1 (.t 6)) ::
oo 8 (.ixvn 8 9 (.t 5) (.t 7)) ::
oo 3 (.alloc [Value.string ByteArray.empty, k0, k0, k0, k0, k0, k0, k0, Value.nilFunc] 115) ::
oz (.store 9 (.t 3) (.t 8)) :: []) []) (.seq (.reg (
 oo 9 (.faddr 1 (.t 1)) ::
oo 10 (.load1 (.t 9)) ::
oo 11 (.faddr 2 (.t 1)) ::
oo 12 (.load1 (.t 11)) ::
oo 13 (.faddr 3 (.t 1)) ::
oo 14 (.load1 (.t 13)) ::
oo 15 (.bslice [k0, k0, k0] [(0, 1, (.t 10)), (1, 1, (.t 12)), (2, 1, (.t 14))] 3 2) ::
om 4 15 :: [])) (.seq (.seq (.reg (
 oo 16 (.faddr 0 (.t 1)) ::
oo 17 (.load1 (.t 16)) ::
oo 18 (.int .eql (.t 17) z0) :: [])) (.cond (.t 18) (.reg (
 om 19 4 ::
oo 20 (.slsl 1 (.t 19) (some z1) none none) ::
om 4 20 :: [])) .skip)) (.seq (.dreg (
 oo 21 (.faddr 0 (.t 3)) ::
oo 22 (.load1 (.t 21)) ::
om 23 4 ::
oo 24 (.faddr 7 (.t 3)) ::
oo 25 (.load1 (.t 24)) ::
oo 26 (.faddr 7 (.t 3)) ::
oo 27 (.load1 (.t 26)) ::
oo 28 (.slsl 1 (.t 23) none (some (.t 25)) (some (.t 27))) ::
oc 29 63 [(.t 22), (.t 28)] ::
om 2 29 :: []) []) .ret)))))
def r47 : List ResultVar := [.tmp 2]
theorem fun47 : Fun Tryz.prog 47 30 1 a47 r47 :=
  ⟨rfl, Tryz.f47, _, rfl, rfl, rfl, by decide, rfl, rfl, rfl⟩
noncomputable def a48 : ACode := (.seq (.reg (
 oo 1 (.box (.t 0) 38) ::
oo 2 (.mv (.c (Value.string (ByteArray.mk #[])))) :: [])) (.seq (.seq (.reg (
 oo 3 (.faddr 0 (.t 1)) ::
oo 4 (.load1 (.t 3)) :: [])) (.block 0 (.seq (.reg (
 oo 6 (.int .eql (.t 4) z0) ::
om 5 6 :: [])) (.cond (.t 5) (.seq (.reg (
 oo 7 (.faddr 2 (.t 1)) ::
oo 8 (.load1 (.t 7)) ::
oc 9 65 [(.t 8)] ::
oo 10 (.pure (rawOp Tryz.f48 3 3)) ::
om 2 10 :: [])) .ret) (.seq (.reg (
 oo 12 (.int .eql (.t 4) z1) ::
om 11 12 :: [])) (.cond (.t 11) (.seq (.dreg (
 oo 13 (.faddr 1 (.t 1)) ::
oo 14 (.load1 (.t 13)) ::
oc 15 65 [(.t 14)] ::
oo 16 (.pure (rawOp Tryz.f48 5 3)) ::
oo 17 (.faddr 2 (.t 1)) ::
oo 18 (.load1 (.t 17)) ::
oc 19 65 [(.t 18)] ::
oo 20 (.pure (rawOp Tryz.f48 5 7)) ::
oo 21 (.faddr 3 (.t 1)) ::
oo 22 (.load1 (.t 21)) ::
oc 23 65 [(.t 22)] ::
oo 24 (.pure (rawOp Tryz.f48 5 11)) ::
om 2 24 :: []) []) .ret) (.seq (.reg (
 oo 26 (.int .eql (.t 4) (.c (Value.int .i64 2))) ::
om 25 26 :: [])) (.cond (.t 25) (.seq (.reg (
 oo 27 (.faddr 1 (.t 1)) ::
oo 28 (.load1 (.t 27)) ::
oc 29 65 [(.t 28)] ::
oo 30 (.pure (rawOp Tryz.f48 7 3)) ::
om 2 30 :: [])) .ret) (.seq (.reg (
 oo 32 (.int .eql (.t 4) (.c (Value.int .i64 3))) ::
om 31 32 :: [])) (.cond (.t 31) (.seq (.dreg (
 oo 33 (.faddr 1 (.t 1)) ::
oo 34 (.load1 (.t 33)) ::
oc 35 65 [(.t 34)] ::
oo 36 (.pure (rawOp Tryz.f48 9 3)) ::
oo 37 (.faddr 2 (.t 1)) ::
oo 38 (.load1 (.t 37)) ::
oc 39 65 [(.t 38)] ::
oo 40 (.pure (rawOp Tryz.f48 9 7)) ::
oo 41 (.faddr 3 (.t 1)) ::
oo 42 (.load1 (.t 41)) ::
oc 43 65 [(.t 42)] ::
oo 44 (.pure (rawOp Tryz.f48 9 11)) ::
om 2 44 :: []) []) .ret) (.seq (.reg (
 oo 46 (.int .eql (.t 4) (.c (Value.int .i64 4))) ::
om 45 46 :: [])) (.cond (.t 45) (.seq (.reg (
 oo 47 (.faddr 1 (.t 1)) ::
oo 48 (.load1 (.t 47)) ::
oc 49 65 [(.t 48)] ::
oo 50 (.pure (rawOp Tryz.f48 11 3)) ::
om 2 50 :: [])) .ret) (.seq (.reg (
 oo 52 (.int .eql (.t 4) (.c (Value.int .i64 5))) ::
om 51 52 :: [])) (.cond (.t 51) (.seq (.dreg (
 oo 53 (.faddr 1 (.t 1)) ::
oo 54 (.load1 (.t 53)) ::
oc 55 65 [(.t 54)] ::
oo 56 (.pure (rawOp Tryz.f48 13 3)) ::
oo 57 (.faddr 2 (.t 1)) ::
oo 58 (.load1 (.t 57)) ::
oc 59 65 [(.t 58)] ::
oo 60 (.pure (rawOp Tryz.f48 13 7)) ::
om 2 60 :: []) []) .ret) (.seq (.reg (
 oo 62 (.int .eql (.t 4) (.c (Value.int .i64 6))) ::
om 61 62 :: [])) (.cond (.t 61) (.seq (.dreg (
 oo 63 (.faddr 1 (.t 1)) ::
oo 64 (.load1 (.t 63)) ::
oc 65 65 [(.t 64)] ::
oo 66 (.pure (rawOp Tryz.f48 15 3)) ::
oo 67 (.faddr 2 (.t 1)) ::
oo 68 (.load1 (.t 67)) ::
oc 69 65 [(.t 68)] ::
oo 70 (.pure (rawOp Tryz.f48 15 7)) ::
om 2 70 :: []) []) .ret) .skip)))))))))))))))) (.seq (.dreg (
 oo 71 (.faddr 1 (.t 1)) ::
oo 72 (.load1 (.t 71)) ::
oc 73 65 [(.t 72)] ::
oo 74 (.pure (rawOp Tryz.f48 16 3)) ::
oo 75 (.faddr 2 (.t 1)) ::
oo 76 (.load1 (.t 75)) ::
oc 77 65 [(.t 76)] ::
oo 78 (.pure (rawOp Tryz.f48 16 7)) ::
om 2 78 :: []) []) .ret)))
def r48 : List ResultVar := [.tmp 2]
theorem fun48 : Fun Tryz.prog 48 79 1 a48 r48 :=
  ⟨rfl, Tryz.f48, _, rfl, rfl, rfl, by decide, rfl, rfl, rfl⟩
noncomputable def a49 : ACode := (.seq (.reg (
 oo 2 (.mv z0) :: [])) (.seq (.seq (.reg (
 om 4 0 ::
oo 5 (.len (.t 4)) :: [])) (.block 0 (.seq (.reg (
 oo 7 (.int .eql (.t 5) z0) ::
om 6 7 :: [])) (.cond (.t 6) (.seq (.reg (
 oo 2 (.mv z0) :: [])) .ret) (.seq (.reg (
 oo 9 (.int .eql (.t 5) z1) ::
om 8 9 :: [])) (.cond (.t 8) (.seq (.reg (
 om 10 0 ::
oo 11 (.ixsl 4 (.t 10) z0) ::
oo 12 (.loadn 4 (.t 11)) ::
oc 13 47 [(.t 12)] ::
oc 14 57 [(.t 13)] ::
om 2 14 :: [])) .ret) .skip)))))) (.seq (.reg (
 om 15 0 ::
oo 16 (.len (.t 15)) ::
oc 17 79 [(.t 16)] ::
om 3 17 :: [])) (.seq (.dreg (
 om 18 0 ::
om 19 3 ::
om 20 3 ::
oo 21 (.slsl 4 (.t 18) none (some (.t 19)) (some (.t 20))) ::
oc 22 49 [(.t 21)] ::
om 23 0 ::
om 24 3 ::
oo 25 (.slsl 4 (.t 23) (some (.t 24)) none none) ::
oc 26 49 [(.t 25)] ::
oc 27 58 [(.t 22), (.t 26)] ::
om 2 27 :: []) []) .ret))))
def r49 : List ResultVar := [.tmp 2]
theorem fun49 : Fun Tryz.prog 49 28 1 a49 r49 :=
  ⟨rfl, Tryz.f49, _, rfl, rfl, rfl, by decide, rfl, rfl, rfl⟩
noncomputable def a50 : ACode := (.seq (.reg (
 oo 2 (.mv z0) :: [])) (.seq (.seq (.reg (
 om 4 0 ::
oo 5 (.len (.t 4)) ::
oo 6 (.int .eql (.t 5) z0) :: [])) (.cond (.t 6) (.seq (.reg (
 oo 2 (.mv z0) :: [])) .ret) .skip)) (.seq (.seq (.reg (
 om 7 0 ::
oo 8 (.len (.t 7)) ::
oo 9 (.int .eql (.t 8) z1) :: [])) (.cond (.t 9) (.seq (.reg (
 om 10 0 ::
oo 11 (.ixsl 4 (.t 10) z0) ::
oo 12 (.loadn 4 (.t 11)) ::
oc 13 48 [(.t 12)] ::
oc 14 62 [(.t 13)] ::
om 2 14 :: [])) .ret) .skip)) (.seq (.reg (
 om 15 0 ::
oo 16 (.len (.t 15)) ::
oc 17 80 [(.t 16)] ::
om 3 17 :: [])) (.seq (.dreg (
 om 18 0 ::
om 19 3 ::
oo 20 (.slsl 4 (.t 18) none (some (.t 19)) none) ::
oc 21 50 [(.t 20)] ::
om 22 0 ::
om 23 3 ::
oo 24 (.slsl 4 (.t 22) (some (.t 23)) none none) ::
oc 25 50 [(.t 24)] ::
oc 26 81 [(.t 21), (.t 25)] ::
om 2 26 :: []) []) .ret)))))
def r50 : List ResultVar := [.tmp 2]
theorem fun50 : Fun Tryz.prog 50 27 1 a50 r50 :=
  ⟨rfl, Tryz.f50, _, rfl, rfl, rfl, by decide, rfl, rfl, rfl⟩
noncomputable def a51 : ACode := (.seq (.reg (
 oo 2 (.box (.t 0) 3) ::
oo 3 (.box (.t 1) 3) ::
oo 4 (.mv (.c (Value.nilFunc))) :: [])) (.seq (.reg (
 oo 5 (.mkfn (Fn.func 82) [] [(.t 2), (.t 3)]) ::
om 4 5 :: [])) .ret))
def r51 : List ResultVar := [.tmp 4]
theorem fun51 : Fun Tryz.prog 51 6 2 a51 r51 :=
  ⟨rfl, Tryz.f51, _, rfl, rfl, rfl, by decide, rfl, rfl, rfl⟩
noncomputable def a52 : ACode := (.seq (.reg (
 oo 4 (.mv (.c (Value.slice none 0 0))) :: [])) (.seq (.seq (.reg (
 om 6 0 ::
oo 7 (.len (.t 6)) ::
oo 8 (.int .eql (.t 7) z1) :: [])) (.cond (.t 8) (.seq (.reg (
 oo 4 (.mv (.c (Value.slice none 0 0))) :: [])) .ret) .skip)) (.seq (.reg (
 om 9 0 ::
oo 10 (.len (.t 9)) ::
oc 11 80 [(.t 10)] ::
om 5 11 :: [])) (.seq (.seq (.reg (
 om 12 1 ::
om 13 5 ::
oo 14 (.int .lss (.t 12) (.t 13)) :: [])) (.cond (.t 14) (.seq (.dreg (
 om 15 0 ::
om 16 5 ::
oo 17 (.slsl 4 (.t 15) none (some (.t 16)) none) ::
om 18 1 ::
oc 19 52 [(.t 17), (.t 18)] ::
om 20 0 ::
om 21 5 ::
oo 22 (.slsl 4 (.t 20) (some (.t 21)) none none) ::
oc 23 50 [(.t 22)] ::
oo 24 (.bslice [k0] [(0, 1, (.t 23))] 1 2) ::
oo 25 (.append 2 1 8 (.t 19) (.t 24)) ::
om 4 25 :: []) []) .ret) .skip)) (.seq (.dreg (
 om 26 0 ::
om 27 5 ::
oo 28 (.slsl 4 (.t 26) (some (.t 27)) none none) ::
om 29 1 ::
om 30 5 ::
oo 31 (.int .sub (.t 29) (.t 30)) ::
oc 32 52 [(.t 28), (.t 31)] ::
om 33 0 ::
om 34 5 ::
oo 35 (.slsl 4 (.t 33) none (some (.t 34)) none) ::
oc 36 50 [(.t 35)] ::
oo 37 (.bslice [k0] [(0, 1, (.t 36))] 1 2) ::
oo 38 (.append 2 1 8 (.t 32) (.t 37)) ::
om 4 38 :: []) []) .ret)))))
def r52 : List ResultVar := [.tmp 4]
theorem fun52 : Fun Tryz.prog 52 39 2 a52 r52 :=
  ⟨rfl, Tryz.f52, _, rfl, rfl, rfl, by decide, rfl, rfl, rfl⟩
noncomputable def a53 : ACode := (.seq (.reg (
 oo 2 (.mv (.c (Value.bool false))) :: [])) (.seq (.reg (
 om 3 0 ::
oc 4 78 [(.t 3), z0, (.c (Value.int .i64 2147483646))] ::
om 2 4 :: [])) .ret))
def r53 : List ResultVar := [.tmp 2]
theorem fun53 : Fun Tryz.prog 53 5 1 a53 r53 :=
  ⟨rfl, Tryz.f53, _, rfl, rfl, rfl, by decide, rfl, rfl, rfl⟩
noncomputable def a54 : ACode := (.seq (.reg (
 oo 2 (.mv (.c (Value.slice none 0 0))) :: [])) (.seq (.reg (
 om 3 0 ::
oc 4 84 [(.c (Value.slice none 0 0)), (.t 3)] ::
om 2 4 :: [])) .ret))
def r54 : List ResultVar := [.tmp 2]
theorem fun54 : Fun Tryz.prog 54 5 1 a54 r54 :=
  ⟨rfl, Tryz.f54, _, rfl, rfl, rfl, by decide, rfl, rfl, rfl⟩
noncomputable def a55 : ACode := (.seq (.reg (
 oo 4 (.mv (.c (Value.bool false))) :: [])) (.seq (.reg (
 om 5 0 ::
om 6 1 ::
oc 7 85 [(.t 5), (.t 6)] ::
oo 8 (.int .geq (.t 7) z0) ::
om 4 8 :: [])) .ret))
def r55 : List ResultVar := [.tmp 4]
theorem fun55 : Fun Tryz.prog 55 9 2 a55 r55 :=
  ⟨rfl, Tryz.f55, _, rfl, rfl, rfl, by decide, rfl, rfl, rfl⟩
noncomputable def a56 : ACode := (.seq (.reg (
 oo 2 (.mv (.c (Value.bool false))) :: [])) (.seq (.reg (
 om 3 0 ::
oc 4 53 [(.t 3)] ::
oo 5 (.not (.t 4)) ::
om 2 5 :: [])) .ret))
def r56 : List ResultVar := [.tmp 2]
theorem fun56 : Fun Tryz.prog 56 6 1 a56 r56 :=
  ⟨rfl, Tryz.f56, _, rfl, rfl, rfl, by decide, rfl, rfl, rfl⟩
noncomputable def a57 : ACode := (.seq (.reg (
 oo 2 (.mv z0) :: [])) (.seq (.reg (
 oo 3 (.mv z1) :: [])) (.seq (.seq (.reg (
 om 5 0 ::
oo 6 (.lenstr (.t 5)) ::
oo 7 (.mv z0) :: [])) (.block 0 (.loop (.seq (.reg (
 oo 8 (.int .lss (.t 7) (.t 6)) :: [])) (.seq (.cond (.t 8) .skip (.exit 0)) (.seq (.block 1 (.seq (.reg (
 om 9 7 ::
om 4 9 :: [])) (.reg (
 om 10 3 ::
oo 11 (.int .mul (.c (Value.int .i64 257)) (.t 10)) ::
om 12 0 ::
om 13 4 ::
oo 14 (.pure (rawOp Tryz.f57 5 4)) ::
oo 15 (.conv .i64 (.t 14)) ::
oo 16 (.int .add (.t 11) (.t 15)) ::
oo 17 (.int .add (.t 16) z1) ::
oo 18 (.idiv false (.t 17) (.c (Value.int .i64 2147483647))) ::
om 3 18 :: [])))) (.reg (
 oo 19 (.int .add (.t 7) z1) ::
om 7 19 :: [])))))))) (.seq (.reg (
 om 20 3 ::
om 2 20 :: [])) .ret))))
def r57 : List ResultVar := [.tmp 2]
theorem fun57 : Fun Tryz.prog 57 21 1 a57 r57 :=
  ⟨rfl, Tryz.f57, _, rfl, rfl, rfl, by decide, rfl, rfl, rfl⟩
noncomputable def a58 : ACode := (.seq (.reg (
 oo 4 (.mv z0) :: [])) (.seq (.reg (
 om 5 0 ::
oo 6 (.int .mul (.c (Value.int .i64 1000003)) (.t 5)) ::
om 7 1 ::
oo 8 (.int .mul (.c (Value.int .i64 20011)) (.t 7)) ::
oo 9 (.int .add (.t 6) (.t 8)) ::
oo 10 (.int .add (.t 9) (.c (Value.int .i64 7))) ::
oo 11 (.idiv false (.t 10) (.c (Value.int .i64 2147483647))) ::
om 4 11 :: [])) .ret))
def r58 : List ResultVar := [.tmp 4]
theorem fun58 : Fun Tryz.prog 58 12 2 a58 r58 :=
  ⟨rfl, Tryz.f58, _, rfl, rfl, rfl, by decide, rfl, rfl, rfl⟩
noncomputable def a59 : ACode := (.seq (.reg (
 oo 6 (.mv (.c (Value.bool false))) :: [])) (.seq (.reg (
 om 7 0 ::
om 8 1 ::
oo 9 (.int .geq (.t 7) (.t 8)) ::
om 10 9 ::
og 11 10 true (.mv (.t 0)) ::
og 12 10 true (.mv (.t 2)) ::
og 13 10 true (.int .leq (.t 11) (.t 12)) ::
oo 14 (.pick (.t 10) (.t 13) (.c (Value.bool false))) ::
om 6 14 :: [])) .ret))
def r59 : List ResultVar := [.tmp 6]
theorem fun59 : Fun Tryz.prog 59 15 3 a59 r59 :=
  ⟨rfl, Tryz.f59, _, rfl, rfl, rfl, by decide, rfl, rfl, rfl⟩
noncomputable def a60 : ACode := (.seq (.reg (
 oo 4 (.mv z0) :: [])) (.seq (.seq (.reg (
 om 6 1 ::
oo 7 (.int .eql (.t 6) z1) :: [])) (.cond (.t 7) (.seq (.reg (
 oo 4 (.mv z0) :: [])) .ret) .skip)) (.seq (.reg (
 om 8 1 ::
oc 9 80 [(.t 8)] ::
om 5 9 :: [])) (.seq (.seq (.reg (
 om 10 0 ::
om 11 5 ::
oo 12 (.int .lss (.t 10) (.t 11)) :: [])) (.cond (.t 12) (.seq (.reg (
 om 13 0 ::
om 14 5 ::
oc 15 60 [(.t 13), (.t 14)] ::
oo 16 (.int .add z1 (.t 15)) ::
om 4 16 :: [])) .ret) .skip)) (.seq (.reg (
 om 17 0 ::
om 18 5 ::
oo 19 (.int .sub (.t 17) (.t 18)) ::
om 20 1 ::
om 21 5 ::
oo 22 (.int .sub (.t 20) (.t 21)) ::
oc 23 60 [(.t 19), (.t 22)] ::
oo 24 (.int .add z1 (.t 23)) ::
om 4 24 :: [])) .ret)))))
def r60 : List ResultVar := [.tmp 4]
theorem fun60 : Fun Tryz.prog 60 25 2 a60 r60 :=
  ⟨rfl, Tryz.f60, _, rfl, rfl, rfl, by decide, rfl, rfl, rfl⟩
noncomputable def a61 : ACode := (.seq (.reg (
 oo 8 (.mv z0) :: [])) (.seq (.seq (.reg (
 om 11 2 ::
oo 12 (.int .eql (.t 11) z1) :: [])) (.cond (.t 12) (.seq (.reg (
 om 13 0 ::
om 8 13 :: [])) .ret) .skip)) (.seq (.reg (
 om 14 2 ::
oc 15 80 [(.t 14)] ::
om 9 15 :: [])) (.seq (.reg (
 om 16 3 ::
om 17 3 ::
oo 18 (.len (.t 17)) ::
oo 19 (.int .sub (.t 18) z1) ::
oo 20 (.ixsl 1 (.t 16) (.t 19)) ::
oo 21 (.load1 (.t 20)) ::
om 10 21 :: [])) (.seq (.seq (.reg (
 om 22 1 ::
om 23 9 ::
oo 24 (.int .lss (.t 22) (.t 23)) :: [])) (.cond (.t 24) (.seq (.reg (
 om 25 0 ::
om 26 1 ::
om 27 9 ::
om 28 3 ::
om 29 3 ::
oo 30 (.len (.t 29)) ::
oo 31 (.int .sub (.t 30) z1) ::
oo 32 (.slsl 1 (.t 28) none (some (.t 31)) none) ::
oc 33 61 [(.t 25), (.t 26), (.t 27), (.t 32)] ::
om 34 10 ::
oc 35 81 [(.t 33), (.t 34)] ::
om 8 35 :: [])) .ret) .skip)) (.seq (.reg (
 om 36 10 ::
om 37 0 ::
om 38 1 ::
om 39 9 ::
oo 40 (.int .sub (.t 38) (.t 39)) ::
om 41 2 ::
om 42 9 ::
oo 43 (.int .sub (.t 41) (.t 42)) ::
om 44 3 ::
om 45 3 ::
oo 46 (.len (.t 45)) ::
oo 47 (.int .sub (.t 46) z1) ::
oo 48 (.slsl 1 (.t 44) none (some (.t 47)) none) ::
oc 49 61 [(.t 37), (.t 40), (.t 43), (.t 48)] ::
oc 50 81 [(.t 36), (.t 49)] ::
om 8 50 :: [])) .ret))))))
def r61 : List ResultVar := [.tmp 8]
theorem fun61 : Fun Tryz.prog 61 51 4 a61 r61 :=
  ⟨rfl, Tryz.f61, _, rfl, rfl, rfl, by decide, rfl, rfl, rfl⟩
noncomputable def a62 : ACode := (.seq (.reg (
 oo 2 (.mv z0) :: [])) (.seq (.reg (
 oo 3 (.mv z1) :: [])) (.seq (.seq (.reg (
 oo 4 (.mv z0) :: [])) (.block 0 (.loop (.seq (.seq (.reg (
 om 5 4 ::
om 6 0 ::
oo 7 (.lenstr (.t 6)) ::
oo 8 (.int .lss (.t 5) (.t 7)) :: [])) (.cond (.t 8) .skip (.exit 0))) (.seq (.block 1 (.reg (
 om 11 3 ::
oo 12 (.int .mul (.t 11) (.c (Value.int .i64 257))) ::
om 13 0 ::
om 14 4 ::
oo 15 (.pure (rawOp Tryz.f62 5 4)) ::
oo 16 (.conv .i64 (.t 15)) ::
oo 17 (.int .add (.t 12) (.t 16)) ::
oo 18 (.int .add (.t 17) z1) ::
oo 19 (.idiv false (.t 18) (.c (Value.int .i64 2147483647))) ::
om 3 19 :: []))) (.reg (
 om 9 4 ::
oo 10 (.int .add (.t 9) z1) ::
om 4 10 :: []))))))) (.seq (.reg (
 om 20 3 ::
om 2 20 :: [])) .ret))))
def r62 : List ResultVar := [.tmp 2]
theorem fun62 : Fun Tryz.prog 62 21 1 a62 r62 :=
  ⟨rfl, Tryz.f62, _, rfl, rfl, rfl, by decide, rfl, rfl, rfl⟩
noncomputable def a65 : ACode := (.seq (.reg (
 oo 2 (.mv (.c (Value.string (ByteArray.mk #[])))) :: [])) (.seq (.reg (
 om 3 0 ::
oc 4 88 [(.t 3), (.c (Value.int .i64 10))] ::
oo 5 (.pure (rawOp Tryz.f65 1 2)) ::
om 2 5 :: [])) .ret))
def r65 : List ResultVar := [.tmp 2]
theorem fun65 : Fun Tryz.prog 65 6 1 a65 r65 :=
  ⟨rfl, Tryz.f65, _, rfl, rfl, rfl, by decide, rfl, rfl, rfl⟩
noncomputable def a67 : ACode := (.seq (.reg (
 oo 0 (.alloc [Value.string ByteArray.empty, k0, k0, k0, k0, k0, k0, k0, Value.nilFunc, Value.string ByteArray.empty, k0, k0, k0, k0, k0, k0, k0, Value.nilFunc, Value.string ByteArray.empty, k0, k0, k0, k0, k0, k0, k0, Value.nilFunc, Value.string ByteArray.empty, k0, k0, k0, k0, k0, k0, k0, Value.nilFunc, Value.string ByteArray.empty, k0, k0, k0, k0, k0, k0, k0, Value.nilFunc, Value.string ByteArray.empty, k0, k0, k0, k0, k0, k0, k0, Value.nilFunc, Value.string ByteArray.empty, k0, k0, k0, k0, k0, k0, k0, Value.nilFunc, Value.string ByteArray.empty, k0, k0, k0, k0, k0, k0, k0, Value.nilFunc] 116) :: [])) (.seq (.reg (
 oo 4 (.build [k0, k0] []) ::
oo 5 (.build [k0, k0] [(0, 1, z1), (1, 1, (.c (Value.int .i64 1099511627776)))]) ::
oo 1 (.alloc [k0, k0] 112) ::
oo 2 (.alloc [k0, k0] 112) ::
oz (.store 2 (.t 1) (.t 4)) ::
oz (.store 2 (.t 2) (.t 5)) :: [])) (.seq (.reg (
 oo 3 (.mv (.c (Value.func (.func 92) #[] #[]))) :: [])) (.seq (.dreg (
 oo 6 (.loadn 2 (.t 1)) ::
om 7 3 ::
⟨(some 8), none, (.call (.t 7) [(.c (Value.int .i64 1000000))])⟩ ::
oo 9 (.loadn 2 (.t 1)) ::
oo 10 (.build [Value.string ByteArray.empty, k0, k0, k0, k0, k0, k0, k0, Value.nilFunc] [(0, 1, (.c (Value.string (ByteArray.mk #[98, 117, 121])))), (1, 2, (.t 6)), (3, 2, (.t 8)), (5, 2, (.t 9)), (7, 1, z1), (8, 1, (.c (Value.func (.func 93) #[] #[])))]) ::
oo 11 (.loadn 2 (.t 2)) ::
om 12 3 ::
⟨(some 13), none, (.call (.t 12) [(.c (Value.int .i64 1000000))])⟩ ::
oo 14 (.build [k0, k0] [(1, 1, (.c (Value.int .i64 1000)))]) ::
oo 15 (.build [Value.string ByteArray.empty, k0, k0, k0, k0, k0, k0, k0, Value.nilFunc] [(0, 1, (.c (Value.string (ByteArray.mk #[100, 114, 97, 119])))), (1, 2, (.t 11)), (3, 2, (.t 13)), (5, 2, (.t 14)), (7, 1, (.c (Value.int .i64 3))), (8, 1, (.c (Value.func (.func 94) #[] #[])))]) ::
oo 16 (.loadn 2 (.t 2)) ::
oo 17 (.loadn 2 (.t 1)) ::
oo 18 (.loadn 2 (.t 1)) ::
oo 19 (.build [Value.string ByteArray.empty, k0, k0, k0, k0, k0, k0, k0, Value.nilFunc] [(0, 1, (.c (Value.string (ByteArray.mk #[99, 117, 116])))), (1, 2, (.t 16)), (3, 2, (.t 17)), (5, 2, (.t 18)), (7, 1, z1), (8, 1, (.c (Value.func (.func 95) #[] #[])))]) ::
oo 20 (.loadn 2 (.t 2)) ::
om 21 3 ::
⟨(some 22), none, (.call (.t 21) [(.c (Value.int .i64 1000000))])⟩ ::
oo 23 (.build [k0, k0] [(1, 1, (.c (Value.int .i64 1000000)))]) ::
oo 24 (.build [Value.string ByteArray.empty, k0, k0, k0, k0, k0, k0, k0, Value.nilFunc] [(0, 1, (.c (Value.string (ByteArray.mk #[114, 117, 110])))), (1, 2, (.t 20)), (3, 2, (.t 22)), (5, 2, (.t 23)), (7, 1, (.c (Value.int .i64 3))), (8, 1, (.c (Value.func (.func 96) #[] #[])))]) ::
oo 25 (.loadn 2 (.t 2)) ::
oo 26 (.loadn 2 (.t 1)) ::
oo 27 (.loadn 2 (.t 1)) ::
oo 28 (.build [Value.string ByteArray.empty, k0, k0, k0, k0, k0, k0, k0, Value.nilFunc] [(0, 1, (.c (Value.string (ByteArray.mk #[109, 101, 108, 116])))), (1, 2, (.t 25)), (3, 2, (.t 26)), (5, 2, (.t 27)), (7, 1, z1), (8, 1, (.c (Value.func (.func 97) #[] #[])))]) ::
oo 29 (.loadn 2 (.t 2)) ::
om 30 3 ::
⟨(some 31), none, (.call (.t 30) [(.c (Value.int .i64 1000000))])⟩ ::
oo 32 (.loadn 2 (.t 1)) ::
oo 33 (.build [Value.string ByteArray.empty, k0, k0, k0, k0, k0, k0, k0, Value.nilFunc] [(0, 1, (.c (Value.string (ByteArray.mk #[98, 105, 108, 108])))), (1, 2, (.t 29)), (3, 2, (.t 31)), (5, 2, (.t 32)), (7, 1, (.c (Value.int .i64 2))), (8, 1, (.c (Value.func (.func 98) #[] #[])))]) ::
oo 34 (.loadn 2 (.t 2)) ::
om 35 3 ::
⟨(some 36), none, (.call (.t 35) [(.c (Value.int .i64 1000000000))])⟩ ::
oo 37 (.loadn 2 (.t 1)) ::
oo 38 (.build [Value.string ByteArray.empty, k0, k0, k0, k0, k0, k0, k0, Value.nilFunc] [(0, 1, (.c (Value.string (ByteArray.mk #[112, 97, 121])))), (1, 2, (.t 34)), (3, 2, (.t 36)), (5, 2, (.t 37)), (7, 1, (.c (Value.int .i64 2))), (8, 1, (.c (Value.func (.func 99) #[] #[])))]) ::
oo 39 (.loadn 2 (.t 2)) ::
oo 40 (.build [k0, k0] [(1, 1, (.c (Value.int .i64 59)))]) ::
oo 41 (.loadn 2 (.t 1)) ::
oo 42 (.build [Value.string ByteArray.empty, k0, k0, k0, k0, k0, k0, k0, Value.nilFunc] [(0, 1, (.c (Value.string (ByteArray.mk #[99, 108, 97, 105, 109])))), (1, 2, (.t 39)), (3, 2, (.t 40)), (5, 2, (.t 41)), (7, 1, (.c (Value.int .i64 2))), (8, 1, (.c (Value.func (.func 100) #[] #[])))]) ::
oo 43 (.build [Value.string ByteArray.empty, k0, k0, k0, k0, k0, k0, k0, Value.nilFunc, Value.string ByteArray.empty, k0, k0, k0, k0, k0, k0, k0, Value.nilFunc, Value.string ByteArray.empty, k0, k0, k0, k0, k0, k0, k0, Value.nilFunc, Value.string ByteArray.empty, k0, k0, k0, k0, k0, k0, k0, Value.nilFunc, Value.string ByteArray.empty, k0, k0, k0, k0, k0, k0, k0, Value.nilFunc, Value.string ByteArray.empty, k0, k0, k0, k0, k0, k0, k0, Value.nilFunc, Value.string ByteArray.empty, k0, k0, k0, k0, k0, k0, k0, Value.nilFunc, Value.string ByteArray.empty, k0, k0, k0, k0, k0, k0, k0, Value.nilFunc] [(0, 9, (.t 10)), (9, 9, (.t 15)), (18, 9, (.t 19)), (27, 9, (.t 24)), (36, 9, (.t 28)), (45, 9, (.t 33)), (54, 9, (.t 38)), (63, 9, (.t 42))]) ::
oz (.store 72 (.t 0) (.t 43)) :: []) []) .ret))))
def r67 : List ResultVar := [.cell 0 116]
theorem fun67 : Fun Tryz.prog 67 44 0 a67 r67 :=
  ⟨rfl, Tryz.f67, _, rfl, rfl, rfl, by decide, rfl, rfl, rfl⟩
noncomputable def a68 : ACode := (.seq (.reg (
 oo 4 (.mv (.c (Value.string (ByteArray.mk #[])))) ::
oo 5 (.mv (.c (Value.bool false))) :: [])) (.seq (.reg (
 om 11 1 ::
oc 12 66 [(.t 11), (.c (Value.string (ByteArray.mk #[32])))] ::
om 6 12 :: [])) (.seq (.reg (
 om 13 0 ::
oo 14 (.nilck (.t 13)) ::
oo 15 (.faddr 4 (.t 14)) ::
oz (.store 1 (.t 15) (.c (Value.slice none 0 0))) :: [])) (.seq (.seq (.reg (
 om 16 6 ::
oo 17 (.slsl 1 (.t 16) (some z1) none none) ::
oo 18 (.len (.t 17)) ::
oo 19 (.mv z0) :: [])) (.block 0 (.loop (.seq (.reg (
 oo 20 (.int .lss (.t 19) (.t 18)) :: [])) (.seq (.cond (.t 20) .skip (.exit 0)) (.seq (.block 1 (.seq (.reg (
 oo 21 (.ixsl 1 (.t 17) (.t 19)) ::
oo 22 (.load1 (.t 21)) ::
om 8 22 :: [])) (.seq (.reg (
 om 24 8 ::
oc 25 101 [(.t 24)] ::
om 23 25 ::
oo 26 (.extract (.t 23) 0) ::
oo 27 (.extract (.t 23) 1) ::
om 9 26 ::
om 10 27 :: [])) (.seq (.seq (.reg (
 om 28 10 ::
oo 29 (.not (.t 28)) :: [])) (.cond (.t 29) (.seq (.reg (
 oo 4 (.mv (.c (Value.string (ByteArray.mk #[])))) ::
oo 5 (.mv (.c (Value.bool false))) :: [])) .ret) .skip)) (.reg (
 om 30 0 ::
om 31 0 ::
oo 32 (.nilck (.t 31)) ::
oo 33 (.faddr 4 (.t 32)) ::
oo 34 (.load1 (.t 33)) ::
om 35 9 ::
oo 36 (.bslice [k0] [(0, 1, (.t 35))] 1 2) ::
oo 37 (.append 2 1 8 (.t 34) (.t 36)) ::
oo 38 (.nilck (.t 30)) ::
oo 39 (.faddr 4 (.t 38)) ::
oz (.store 1 (.t 39) (.t 37)) :: [])))))) (.reg (
 oo 40 (.int .add (.t 19) z1) ::
om 19 40 :: [])))))))) (.seq (.reg (
 om 41 6 ::
oo 42 (.ixsl 1 (.t 41) z0) ::
oo 43 (.load1 (.t 42)) ::
om 4 43 ::
oo 5 (.mv (.c (Value.bool true))) :: [])) .ret)))))
def r68 : List ResultVar := [.tmp 4, .tmp 5]
theorem fun68 : Fun Tryz.prog 68 44 2 a68 r68 :=
  ⟨rfl, Tryz.f68, _, rfl, rfl, rfl, by decide, rfl, rfl, rfl⟩
noncomputable def a69 : ACode := (.seq (.reg (
 oo 4 (.mv (.c (Value.bool false))) :: [])) (.seq (.seq (.dreg (
 om 7 0 ::
oo 8 (.nilck (.t 7)) ::
oo 9 (.faddr 4 (.t 8)) ::
oo 10 (.load1 (.t 9)) ::
oo 11 (.len (.t 10)) ::
oc 12 67 [] ::
om 13 1 ::
oo 14 (.ixvn 8 9 (.t 12) (.t 13)) ::
oo 15 (.field1 7 (.t 14)) ::
oo 16 (.int .neq (.t 11) (.t 15)) :: []) []) (.cond (.t 16) (.seq (.reg (
 oo 4 (.mv (.c (Value.bool false))) :: [])) .ret) .skip)) (.seq (.reg (
 oo 5 (.alloc [k0, k0, k0] 162) :: [])) (.seq (.reg (
 oo 6 (.mv z0) :: [])) (.seq (.seq (.reg (
 om 17 1 ::
oo 18 (.int .eql (.t 17) z0) :: [])) (.cond (.t 18) (.reg (
 oo 6 (.mv z1) :: [])) .skip)) (.seq (.dreg (
 om 19 6 ::
oo 20 (.slarr 3 1 (.t 5) (some (.t 19)) none none) ::
om 21 0 ::
oo 22 (.nilck (.t 21)) ::
oo 23 (.faddr 4 (.t 22)) ::
oo 24 (.load1 (.t 23)) ::
oo 25 (.copy 1 (.t 20) (.t 24)) :: []) []) (.seq (.reg (
 om 26 0 ::
om 27 0 ::
om 28 0 ::
om 29 0 ::
om 30 1 ::
oo 31 (.ixarr 3 1 (.t 5) z0) ::
oo 32 (.load1 (.t 31)) ::
oo 33 (.ixarr 3 1 (.t 5) z1) ::
oo 34 (.load1 (.t 33)) ::
oo 35 (.ixarr 3 1 (.t 5) (.c (Value.int .i64 2))) ::
oo 36 (.load1 (.t 35)) ::
oo 37 (.nilck (.t 26)) ::
oo 38 (.faddr 0 (.t 37)) ::
oo 39 (.faddr 0 (.t 38)) ::
oz (.store 1 (.t 39) (.t 30)) ::
oo 40 (.nilck (.t 27)) ::
oo 41 (.faddr 0 (.t 40)) ::
oo 42 (.faddr 1 (.t 41)) ::
oz (.store 1 (.t 42) (.t 32)) ::
oo 43 (.nilck (.t 28)) ::
oo 44 (.faddr 0 (.t 43)) ::
oo 45 (.faddr 2 (.t 44)) ::
oz (.store 1 (.t 45) (.t 34)) ::
oo 46 (.nilck (.t 29)) ::
oo 47 (.faddr 0 (.t 46)) ::
oo 48 (.faddr 3 (.t 47)) ::
oz (.store 1 (.t 48) (.t 36)) :: [])) (.seq (.reg (
 om 49 0 ::
oo 50 (.nilck (.t 49)) ::
oo 51 (.faddr 0 (.t 50)) ::
oo 52 (.loadn 4 (.t 51)) ::
oc 53 45 [(.t 52)] ::
om 4 53 :: [])) .ret))))))))
def r69 : List ResultVar := [.tmp 4]
theorem fun69 : Fun Tryz.prog 69 54 2 a69 r69 :=
  ⟨rfl, Tryz.f69, _, rfl, rfl, rfl, by decide, rfl, rfl, rfl⟩
noncomputable def a70 : ACode := (.seq (.reg (
 oo 4 (.mv (.c (Value.slice none 0 0))) :: [])) (.seq (.reg (
 oo 8 (.bslice [] [] 0 9) ::
om 5 8 :: [])) (.seq (.reg (
 oo 6 (.mv z0) :: [])) (.seq (.seq (.reg (
 oo 7 (.mv z0) :: [])) (.block 0 (.loop (.seq (.seq (.reg (
 om 9 7 ::
om 10 0 ::
oo 11 (.lenstr (.t 10)) ::
oo 12 (.int .lss (.t 9) (.t 11)) :: [])) (.cond (.t 12) .skip (.exit 0))) (.seq (.block 1 (.seq (.reg (
 om 15 0 ::
om 16 7 ::
oo 17 (.pure (rawOp Tryz.f70 6 2)) ::
om 18 1 ::
oo 19 (.pure (rawOp Tryz.f70 6 4)) :: [])) (.cond (.t 19) (.seq (.reg (
 om 20 5 ::
om 21 0 ::
om 22 6 ::
om 23 7 ::
oo 24 (.pure (rawOp Tryz.f70 7 4)) ::
oo 25 (.bslice [Value.string ByteArray.empty] [(0, 1, (.t 24))] 1 9) ::
oo 26 (.append 9 1 16 (.t 20) (.t 25)) ::
om 5 26 :: [])) (.reg (
 om 27 7 ::
oo 28 (.int .add (.t 27) z1) ::
om 6 28 :: []))) .skip))) (.reg (
 om 13 7 ::
oo 14 (.int .add (.t 13) z1) ::
om 7 14 :: []))))))) (.seq (.reg (
 om 29 5 ::
om 30 0 ::
om 31 6 ::
oo 32 (.pure (rawOp Tryz.f70 9 3)) ::
oo 33 (.bslice [Value.string ByteArray.empty] [(0, 1, (.t 32))] 1 9) ::
oo 34 (.append 9 1 16 (.t 29) (.t 33)) ::
om 4 34 :: [])) .ret)))))
def r70 : List ResultVar := [.tmp 4]
theorem fun70 : Fun Tryz.prog 70 35 2 a70 r70 :=
  ⟨rfl, Tryz.f70, _, rfl, rfl, rfl, by decide, rfl, rfl, rfl⟩
noncomputable def a71 : ACode := (.seq (.reg (
 oo 2 (.alloc [k0, k0, k0, k0] 38) ::
oo 3 (.mv (.c (Value.bool false))) :: [])) (.seq (.reg (
 oo 10 (.bslice [Value.string ByteArray.empty, Value.string ByteArray.empty, Value.string ByteArray.empty, Value.string ByteArray.empty, Value.string ByteArray.empty, Value.string ByteArray.empty, Value.string ByteArray.empty, Value.string ByteArray.empty] [(0, 1, (.c (Value.string (ByteArray.mk #[98, 117, 121])))), (1, 1, (.c (Value.string (ByteArray.mk #[100, 114, 97, 119])))), (2, 1, (.c (Value.string (ByteArray.mk #[99, 117, 116])))), (3, 1, (.c (Value.string (ByteArray.mk #[114, 117, 110])))), (4, 1, (.c (Value.string (ByteArray.mk #[109, 101, 108, 116])))), (5, 1, (.c (Value.string (ByteArray.mk #[98, 105, 108, 108])))), (6, 1, (.c (Value.string (ByteArray.mk #[112, 97, 121])))), (7, 1, (.c (Value.string (ByteArray.mk #[99, 108, 97, 105, 109]))))] 8 9) ::
om 4 10 :: [])) (.seq (.reg (
 oo 11 (.bslice [k0, k0, k0, k0, k0, k0, k0, k0] [(0, 1, z1), (1, 1, (.c (Value.int .i64 3))), (2, 1, z1), (3, 1, (.c (Value.int .i64 3))), (4, 1, z1), (5, 1, (.c (Value.int .i64 2))), (6, 1, (.c (Value.int .i64 2))), (7, 1, (.c (Value.int .i64 2)))] 8 3) ::
om 5 11 :: [])) (.seq (.seq (.reg (
 oo 6 (.mv z0) :: [])) (.block 0 (.loop (.seq (.seq (.reg (
 om 12 6 ::
om 13 4 ::
oo 14 (.len (.t 13)) ::
oo 15 (.int .lss (.t 12) (.t 14)) :: [])) (.cond (.t 15) .skip (.exit 0))) (.seq (.block 1 (.seq (.seq (.dreg (
 om 18 0 ::
oo 19 (.ixsl 1 (.t 18) z0) ::
oo 20 (.load1 (.t 19)) ::
om 21 4 ::
om 22 6 ::
oo 23 (.ixsl 1 (.t 21) (.t 22)) ::
oo 24 (.load1 (.t 23)) ::
oo 25 (.pure (rawOp Tryz.f71 6 7)) ::
om 26 25 ::
og 27 26 false (.mv (.t 0)) ::
og 28 26 false (.len (.t 27)) ::
og 29 26 false (.mv (.t 5)) ::
og 30 26 false (.mv (.t 6)) ::
og 31 26 false (.ixsl 1 (.t 29) (.t 30)) ::
og 32 26 false (.load1 (.t 31)) ::
og 33 26 false (.int .add z1 (.t 32)) ::
og 34 26 false (.int .neq (.t 28) (.t 33)) ::
oo 35 (.pick (.t 26) (.c (Value.bool true)) (.t 34)) :: []) []) (.cond (.t 35) (.exit 1) .skip)) (.seq (.reg (
 oo 7 (.alloc [k0, k0, k0] 162) :: [])) (.seq (.seq (.reg (
 oo 8 (.mv z1) :: [])) (.block 2 (.loop (.seq (.seq (.reg (
 om 36 8 ::
om 37 0 ::
oo 38 (.len (.t 37)) ::
oo 39 (.int .lss (.t 36) (.t 38)) :: [])) (.cond (.t 39) .skip (.exit 2))) (.seq (.block 3 (.reg (
 om 42 8 ::
oo 43 (.int .sub (.t 42) z1) ::
om 44 0 ::
om 45 8 ::
oo 46 (.ixsl 1 (.t 44) (.t 45)) ::
oo 47 (.load1 (.t 46)) ::
oc 48 72 [(.t 47)] ::
oo 49 (.ixarr 3 1 (.t 7) (.t 43)) ::
oz (.store 1 (.t 49) (.t 48)) :: []))) (.reg (
 om 40 8 ::
oo 41 (.int .add (.t 40) z1) ::
om 8 41 :: []))))))) (.seq (.reg (
 om 50 6 ::
oo 51 (.ixarr 3 1 (.t 7) z0) ::
oo 52 (.load1 (.t 51)) ::
oo 53 (.ixarr 3 1 (.t 7) z1) ::
oo 54 (.load1 (.t 53)) ::
oo 55 (.ixarr 3 1 (.t 7) (.c (Value.int .i64 2))) ::
oo 56 (.load1 (.t 55)) ::
oo 57 (.build [k0, k0, k0, k0] [(0, 1, (.t 50)), (1, 1, (.t 52)), (2, 1, (.t 54)), (3, 1, (.t 56))]) ::
oo 9 (.alloc [k0, k0, k0, k0] 38) ::
oz (.store 4 (.t 9) (.t 57)) :: [])) (.seq (.seq (.reg (
 om 58 6 ::
oo 59 (.int .eql (.t 58) z0) :: [])) (.cond (.t 59) (.reg (
 om 60 6 ::
oo 61 (.ixarr 3 1 (.t 7) z0) ::
oo 62 (.load1 (.t 61)) ::
oo 63 (.build [k0, k0, k0, k0] [(0, 1, (.t 60)), (2, 1, (.t 62))]) ::
oz (.store 4 (.t 9) (.t 63)) :: [])) .skip)) (.seq (.reg (
 oo 64 (.loadn 4 (.t 9)) ::
oz (.store 4 (.t 2) (.t 64)) ::
oo 3 (.mv (.c (Value.bool true))) :: [])) .ret))))))) (.reg (
 om 16 6 ::
oo 17 (.int .add (.t 16) z1) ::
om 6 17 :: []))))))) (.seq (.reg (
 oo 65 (.build [k0, k0, k0, k0] []) ::
oz (.store 4 (.t 2) (.t 65)) ::
oo 3 (.mv (.c (Value.bool false))) :: [])) .ret)))))
def r71 : List ResultVar := [.cell 2 38, .tmp 3]
theorem fun71 : Fun Tryz.prog 71 66 1 a71 r71 :=
  ⟨rfl, Tryz.f71, _, rfl, rfl, rfl, by decide, rfl, rfl, rfl⟩
noncomputable def a72 : ACode := (.seq (.reg (
 oo 2 (.mv z0) :: [])) (.seq (.seq (.reg (
 om 5 0 ::
oo 6 (.lenstr (.t 5)) ::
oo 7 (.int .lss (.t 6) z1) ::
om 8 7 ::
og 9 8 false (.mv (.t 0)) ::
og 10 8 false (.lenstr (.t 9)) ::
og 11 8 false (.int .gtr (.t 10) (.c (Value.int .i64 13))) ::
oo 12 (.pick (.t 8) (.c (Value.bool true)) (.t 11)) ::
om 13 12 ::
og 14 13 false (.mv (.t 0)) ::
og 15 13 false (.lenstr (.t 14)) ::
og 16 13 false (.int .gtr (.t 15) z1) ::
og 17 13 false (.mv (.t 16)) ::
og 18 17 true (.mv (.t 0)) ::
og 19 17 true (.pure (rawOp Tryz.f72 1 14)) ::
og 20 17 true (.pure (rawOp Tryz.f72 1 15)) ::
og 21 13 false (.pick (.t 17) (.t 20) (.c (Value.bool false))) ::
oo 22 (.pick (.t 13) (.c (Value.bool true)) (.t 21)) :: [])) (.cond (.t 22) (.seq (.reg (
 oo 2 (.mv (.c (Value.int .i64 (-1)))) :: [])) .ret) .skip)) (.seq (.reg (
 oo 3 (.mv z0) :: [])) (.seq (.seq (.reg (
 oo 4 (.mv z0) :: [])) (.block 0 (.loop (.seq (.seq (.reg (
 om 23 4 ::
om 24 0 ::
oo 25 (.lenstr (.t 24)) ::
oo 26 (.int .lss (.t 23) (.t 25)) :: [])) (.cond (.t 26) .skip (.exit 0))) (.seq (.block 1 (.seq (.seq (.reg (
 om 29 0 ::
om 30 4 ::
oo 31 (.pure (rawOp Tryz.f72 7 2)) ::
oo 32 (.pure (rawOp Tryz.f72 7 3)) ::
om 33 32 ::
og 34 33 false (.mv (.t 0)) ::
og 35 33 false (.mv (.t 4)) ::
og 36 33 false (.pure (rawOp Tryz.f72 7 7)) ::
og 37 33 false (.pure (rawOp Tryz.f72 7 8)) ::
oo 38 (.pick (.t 33) (.c (Value.bool true)) (.t 37)) :: [])) (.cond (.t 38) (.seq (.reg (
 oo 2 (.mv (.c (Value.int .i64 (-1)))) :: [])) .ret) .skip)) (.reg (
 om 39 3 ::
oo 40 (.int .mul (.c (Value.int .i64 10)) (.t 39)) ::
om 41 0 ::
om 42 4 ::
oo 43 (.pure (rawOp Tryz.f72 9 4)) ::
oo 44 (.pure (rawOp Tryz.f72 9 5)) ::
oo 45 (.conv .i64 (.t 44)) ::
oo 46 (.int .add (.t 40) (.t 45)) ::
om 3 46 :: [])))) (.reg (
 om 27 4 ::
oo 28 (.int .add (.t 27) z1) ::
om 4 28 :: []))))))) (.seq (.reg (
 om 47 3 ::
om 2 47 :: [])) .ret)))))
def r72 : List ResultVar := [.tmp 2]
theorem fun72 : Fun Tryz.prog 72 48 1 a72 r72 :=
  ⟨rfl, Tryz.f72, _, rfl, rfl, rfl, by decide, rfl, rfl, rfl⟩
noncomputable def a73 : ACode := (.seq (.reg (
 oo 4 (.box (.t 1) 38) ::
oo 6 (.mv (.c (Value.nilIface))) :: [])) (.seq (.dreg (
 om 8 0 ::
oo 9 (.nilck (.t 8)) ::
oo 10 (.faddr 2 (.t 9)) ::
oo 11 (.load1 (.t 10)) ::
oo 12 (.faddr 1 (.t 4)) ::
oo 13 (.load1 (.t 12)) ::
oo 14 (.lookup 2 (Value.pointer none) false (.t 11) (.t 13)) ::
om 7 14 :: []) []) (.seq (.seq (.reg (
 om 15 7 ::
oo 16 (.cmp (some false) false (.t 15) (.c (Value.pointer none)) (rawOp Tryz.f73 2 1)) ::
om 17 16 ::
og 18 17 true (.faddr 0 (.t 4)) ::
og 19 17 true (.load1 (.t 18)) ::
og 20 17 true (.int .gtr (.t 19) z1) ::
oo 21 (.pick (.t 17) (.t 20) (.c (Value.bool false))) :: [])) (.cond (.t 21) (.seq (.reg (
 oo 22 (.build [] []) ::
oo 23 (.mkif 131 (.t 22)) ::
om 6 23 :: [])) .ret) .skip)) (.seq (.seq (.dreg (
 oc 24 67 [] ::
oo 25 (.faddr 0 (.t 4)) ::
oo 26 (.load1 (.t 25)) ::
oo 27 (.ixvn 8 9 (.t 24) (.t 26)) ::
oo 28 (.field1 8 (.t 27)) ::
om 29 0 ::
om 30 7 ::
oo 31 (.loadn 4 (.t 4)) ::
om 32 2 :: []) []) (.reg (
    ⟨(some 33), none, (.call (.t 28) [(.t 29), (.t 30), (.t 31), (.t 32)])⟩ ::
om 6 33 :: []))) .ret))))
def r73 : List ResultVar := [.tmp 6]
theorem fun73 : Fun Tryz.prog 73 34 3 a73 r73 :=
  ⟨rfl, Tryz.f73, _, rfl, rfl, rfl, by decide, rfl, rfl, rfl⟩
noncomputable def a76 : ACode := (.seq (.reg (
 oo 1 (.box (.t 0) 77) ::
oo 2 (.mv (.c (Value.nilFunc))) :: [])) (.seq (.reg (
 oo 3 (.mkfn (Fn.func 107) [] [(.t 1)]) ::
om 2 3 :: [])) .ret))
def r76 : List ResultVar := [.tmp 2]
theorem fun76 : Fun Tryz.prog 76 4 1 a76 r76 :=
  ⟨rfl, Tryz.f76, _, rfl, rfl, rfl, by decide, rfl, rfl, rfl⟩
noncomputable def a77 : ACode := (.seq (.reg (
 oo 4 (.mv z0) :: [])) (.seq (.seq (.reg (
 om 6 0 ::
oo 7 (.len (.t 6)) ::
oo 8 (.mv z0) :: [])) (.block 0 (.loop (.seq (.reg (
 oo 9 (.int .lss (.t 8) (.t 7)) :: [])) (.seq (.cond (.t 9) .skip (.exit 0)) (.seq (.block 1 (.seq (.reg (
 om 10 8 ::
om 5 10 :: [])) (.seq (.reg (
 om 11 1 ::
om 12 0 ::
om 13 5 ::
oo 14 (.ixsl 4 (.t 12) (.t 13)) ::
oo 15 (.loadn 4 (.t 14)) ::
⟨(some 16), none, (.call (.t 11) [(.t 15)])⟩ :: [])) (.cond (.t 16) (.seq (.reg (
 om 17 5 ::
om 4 17 :: [])) .ret) .skip)))) (.reg (
 oo 18 (.int .add (.t 8) z1) ::
om 8 18 :: [])))))))) (.seq (.reg (
 oo 4 (.mv (.c (Value.int .i64 (-1)))) :: [])) .ret)))
def r77 : List ResultVar := [.tmp 4]
theorem fun77 : Fun Tryz.prog 77 19 2 a77 r77 :=
  ⟨rfl, Tryz.f77, _, rfl, rfl, rfl, by decide, rfl, rfl, rfl⟩
noncomputable def a78 : ACode := (.seq (.reg (
 oo 6 (.mv (.c (Value.bool false))) :: [])) (.seq (.reg (
 om 7 1 ::
om 8 0 ::
oo 9 (.int .leq (.t 7) (.t 8)) ::
om 10 9 ::
og 11 10 true (.mv (.t 0)) ::
og 12 10 true (.mv (.t 2)) ::
og 13 10 true (.int .leq (.t 11) (.t 12)) ::
oo 14 (.pick (.t 10) (.t 13) (.c (Value.bool false))) ::
om 6 14 :: [])) .ret))
def r78 : List ResultVar := [.tmp 6]
theorem fun78 : Fun Tryz.prog 78 15 3 a78 r78 :=
  ⟨rfl, Tryz.f78, _, rfl, rfl, rfl, by decide, rfl, rfl, rfl⟩
noncomputable def a79 : ACode := (.seq (.reg (
 oo 2 (.mv z0) :: [])) (.seq (.reg (
 oo 3 (.mv z1) :: [])) (.seq (.block 0 (.loop (.seq (.seq (.reg (
 om 4 3 ::
om 5 0 ::
om 6 3 ::
oo 7 (.int .sub (.t 5) (.t 6)) ::
oo 8 (.int .lss (.t 4) (.t 7)) :: [])) (.cond (.t 8) .skip (.exit 0))) (.block 1 (.reg (
 om 9 3 ::
oo 10 (.int .mul (.t 9) (.c (Value.int .i64 2))) ::
om 3 10 :: [])))))) (.seq (.reg (
 om 11 3 ::
om 2 11 :: [])) .ret))))
def r79 : List ResultVar := [.tmp 2]
theorem fun79 : Fun Tryz.prog 79 12 1 a79 r79 :=
  ⟨rfl, Tryz.f79, _, rfl, rfl, rfl, by decide, rfl, rfl, rfl⟩
noncomputable def a80 : ACode := (.seq (.reg (
 oo 2 (.mv z0) :: [])) (.seq (.reg (
 oo 3 (.mv z1) :: [])) (.seq (.block 0 (.loop (.seq (.seq (.reg (
 om 4 3 ::
oo 5 (.int .mul (.c (Value.int .i64 2)) (.t 4)) ::
om 6 0 ::
oo 7 (.int .lss (.t 5) (.t 6)) :: [])) (.cond (.t 7) .skip (.exit 0))) (.block 1 (.reg (
 om 8 3 ::
oo 9 (.int .mul (.c (Value.int .i64 2)) (.t 8)) ::
om 3 9 :: [])))))) (.seq (.reg (
 om 10 3 ::
om 2 10 :: [])) .ret))))
def r80 : List ResultVar := [.tmp 2]
theorem fun80 : Fun Tryz.prog 80 11 1 a80 r80 :=
  ⟨rfl, Tryz.f80, _, rfl, rfl, rfl, by decide, rfl, rfl, rfl⟩
noncomputable def a81 : ACode := (.seq (.reg (
 oo 4 (.mv z0) :: [])) (.seq (.reg (
 om 5 0 ::
oo 6 (.int .mul (.c (Value.int .i64 1000003)) (.t 5)) ::
om 7 1 ::
oo 8 (.int .mul (.c (Value.int .i64 20011)) (.t 7)) ::
oo 9 (.int .add (.t 6) (.t 8)) ::
oo 10 (.int .add (.t 9) (.c (Value.int .i64 7))) ::
oo 11 (.idiv false (.t 10) (.c (Value.int .i64 2147483647))) ::
om 4 11 :: [])) .ret))
def r81 : List ResultVar := [.tmp 4]
theorem fun81 : Fun Tryz.prog 81 12 2 a81 r81 :=
  ⟨rfl, Tryz.f81, _, rfl, rfl, rfl, by decide, rfl, rfl, rfl⟩
noncomputable def a82 : ACode := (.seq (.reg (
 oo 3 (.box (.t 0) 141) :: [])) (.seq (.reg (
 oo 4 (.alloc [Value.nilFunc] 142) :: [])) (.seq (.reg (
 oo 5 (.mkfn (Fn.func 83) [] [(.t 1), (.t 4), (.t 3)]) ::
oz (.store 1 (.t 4) (.t 5)) :: [])) (.reg (
 oo 6 (.load1 (.t 4)) ::
oo 7 (.load1 (.t 2)) ::
⟨(some 8), none, (.call (.t 6) [z0, (.t 7)])⟩ :: [])))))
def r82 : List ResultVar := []
theorem fun82 : Fun Tryz.prog 82 9 3 a82 r82 :=
  ⟨rfl, Tryz.f82, _, rfl, rfl, rfl, by decide, rfl, rfl, rfl⟩
noncomputable def a83 : ACode := (.seq (.reg (
 oo 7 (.mv (.c (Value.bool false))) :: [])) (.seq (.seq (.reg (
 om 9 1 ::
om 10 0 ::
oo 11 (.int .sub (.t 9) (.t 10)) ::
oo 12 (.int .eql (.t 11) z1) :: [])) (.cond (.t 12) (.seq (.reg (
 oo 7 (.mv (.c (Value.bool true))) :: [])) .ret) .skip)) (.seq (.reg (
 om 13 0 ::
om 14 1 ::
om 15 0 ::
oo 16 (.int .sub (.t 14) (.t 15)) ::
oc 17 79 [(.t 16)] ::
oo 18 (.int .add (.t 13) (.t 17)) ::
om 8 18 :: [])) (.seq (.seq (.reg (
 oo 19 (.load1 (.t 2)) ::
om 20 8 ::
oo 21 (.int .lss (.t 19) (.t 20)) :: [])) (.cond (.t 21) (.seq (.reg (
 oo 22 (.load1 (.t 3)) ::
om 23 0 ::
om 24 8 ::
⟨(some 25), none, (.call (.t 22) [(.t 23), (.t 24)])⟩ ::
om 26 25 ::
og 27 26 true (.load1 (.t 4)) ::
og 28 26 true (.mv (.t 8)) ::
og 29 26 true (.mv (.t 1)) ::
og 30 26 true (.build [k0, k0, Value.bool false] [(0, 1, (.t 28)), (1, 1, (.t 29)), (2, 1, (.c (Value.bool false)))]) ::
⟨(some 31), (some (26, true)), (.call (.t 27) [(.t 30)])⟩ ::
oo 32 (.pick (.t 26) (.t 31) (.c (Value.bool false))) ::
om 7 32 :: [])) .ret) .skip)) (.seq (.reg (
 oo 33 (.load1 (.t 3)) ::
om 34 8 ::
om 35 1 ::
⟨(some 36), none, (.call (.t 33) [(.t 34), (.t 35)])⟩ ::
om 37 36 ::
og 38 37 true (.load1 (.t 4)) ::
og 39 37 true (.mv (.t 0)) ::
og 40 37 true (.mv (.t 8)) ::
og 41 37 true (.build [k0, k0, Value.bool false] [(0, 1, (.t 39)), (1, 1, (.t 40)), (2, 1, (.c (Value.bool true)))]) ::
⟨(some 42), (some (37, true)), (.call (.t 38) [(.t 41)])⟩ ::
oo 43 (.pick (.t 37) (.t 42) (.c (Value.bool false))) ::
om 7 43 :: [])) .ret)))))
def r83 : List ResultVar := [.tmp 7]
theorem fun83 : Fun Tryz.prog 83 44 5 a83 r83 :=
  ⟨rfl, Tryz.f83, _, rfl, rfl, rfl, by decide, rfl, rfl, rfl⟩
noncomputable def a84A0 : ACode := (.reg (
 oo 5 (.alloc [k0, k0, Value.bool false] 94) ::
oz (.store 3 (.t 5) (.t 7)) :: []))
noncomputable def a84B0 : ACode := (.block 1 (.reg (
 oo 8 (.load1 (.t 2)) ::
oo 9 (.loadn 3 (.t 5)) ::
oo 10 (.bslice [k0, k0, Value.bool false] [(0, 3, (.t 9))] 1 94) ::
oo 11 (.append 94 3 24 (.t 8) (.t 10)) ::
oz (.store 1 (.t 2) (.t 11)) :: [])))
theorem c84A0 : cCode Tryz.prog 13 false (rfAt Tryz.f84 0).1 = some a84A0 := rfl
theorem c84B0 : cCode Tryz.prog 13 false (rfAt Tryz.f84 0).2 = some a84B0 := rfl
noncomputable def a84 : ACode := (.seq (.reg (
 oo 2 (.box (.t 0) 97) ::
oo 4 (.mv (.c (Value.slice none 0 0))) :: [])) (.seq (.seq (.reg (
 om 6 1 :: [])) (.block 0 (.range (.t 6) [7] 13 (rfAt Tryz.f84 0).1 (rfAt Tryz.f84 0).2 a84A0 a84B0))) (.seq (.reg (
 oo 12 (.load1 (.t 2)) ::
om 4 12 :: [])) .ret)))
def r84 : List ResultVar := [.tmp 4]
theorem fun84 : Fun Tryz.prog 84 13 2 a84 r84 :=
  ⟨rfl, Tryz.f84, _, rfl, rfl, rfl, by decide, rfl, rfl, rfl⟩
noncomputable def a85 : ACode := (.seq (.reg (
 oo 4 (.mv z0) :: [])) (.seq (.seq (.reg (
 om 6 0 ::
oo 7 (.len (.t 6)) ::
oo 8 (.mv z0) :: [])) (.block 0 (.loop (.seq (.reg (
 oo 9 (.int .lss (.t 8) (.t 7)) :: [])) (.seq (.cond (.t 9) .skip (.exit 0)) (.seq (.block 1 (.seq (.reg (
 om 10 8 ::
om 5 10 :: [])) (.seq (.reg (
 om 11 1 ::
om 12 0 ::
om 13 5 ::
oo 14 (.ixsl 1 (.t 12) (.t 13)) ::
oo 15 (.load1 (.t 14)) ::
⟨(some 16), none, (.call (.t 11) [(.t 15)])⟩ :: [])) (.cond (.t 16) (.seq (.reg (
 om 17 5 ::
om 4 17 :: [])) .ret) .skip)))) (.reg (
 oo 18 (.int .add (.t 8) z1) ::
om 8 18 :: [])))))))) (.seq (.reg (
 oo 4 (.mv (.c (Value.int .i64 (-1)))) :: [])) .ret)))
def r85 : List ResultVar := [.tmp 4]
theorem fun85 : Fun Tryz.prog 85 19 2 a85 r85 :=
  ⟨rfl, Tryz.f85, _, rfl, rfl, rfl, by decide, rfl, rfl, rfl⟩
noncomputable def a92 : ACode := (.seq (.reg (
 oo 2 (.alloc [k0, k0] 112) :: [])) (.seq (.reg (
 om 3 0 ::
oo 4 (.build [k0, k0] [(0, 1, z1), (1, 1, (.t 3))]) ::
oz (.store 2 (.t 2) (.t 4)) :: [])) .ret))
def r92 : List ResultVar := [.cell 2 112]
theorem fun92 : Fun Tryz.prog 92 5 1 a92 r92 :=
  ⟨rfl, Tryz.f92, _, rfl, rfl, rfl, by decide, rfl, rfl, rfl⟩
noncomputable def a93 : ACode := (.seq (.reg (
 oo 6 (.box (.t 2) 38) ::
oo 8 (.mv (.c (Value.nilIface))) :: [])) (.seq (.dreg (
 om 9 0 ::
oo 10 (.nilck (.t 9)) ::
oo 11 (.faddr 0 (.t 10)) ::
oo 12 (.load1 (.t 11)) ::
oo 13 (.faddr 2 (.t 6)) ::
oo 14 (.load1 (.t 13)) ::
oo 15 (.int .add (.t 12) (.t 14)) ::
oo 16 (.nilck (.t 9)) ::
oo 17 (.faddr 0 (.t 16)) ::
oz (.store 1 (.t 17) (.t 15)) :: []) []) (.seq (.reg (
 oo 8 (.mv (.c (Value.nilIface))) :: [])) .ret)))
def r93 : List ResultVar := [.tmp 8]
theorem fun93 : Fun Tryz.prog 93 18 4 a93 r93 :=
  ⟨rfl, Tryz.f93, _, rfl, rfl, rfl, by decide, rfl, rfl, rfl⟩
noncomputable def a94 : ACode := (.seq (.reg (
 oo 6 (.box (.t 2) 38) ::
oo 8 (.mv (.c (Value.nilIface))) :: [])) (.seq (.seq (.reg (
 om 9 1 ::
oo 10 (.cmp (some false) true (.t 9) (.c (Value.pointer none)) (rawOp Tryz.f94 1 1)) :: [])) (.cond (.t 10) (.seq (.reg (
 oo 11 (.build [k0] [(0, 1, (.c (Value.int .i64 11)))]) ::
oo 12 (.mkif 171 (.t 11)) ::
om 8 12 :: [])) .ret) .skip)) (.seq (.dreg (
 om 13 0 ::
oo 14 (.nilck (.t 13)) ::
oo 15 (.faddr 2 (.t 14)) ::
oo 16 (.load1 (.t 15)) ::
oo 17 (.faddr 1 (.t 6)) ::
oo 18 (.load1 (.t 17)) ::
oo 19 (.faddr 1 (.t 6)) ::
oo 20 (.load1 (.t 19)) ::
oo 21 (.faddr 2 (.t 6)) ::
oo 22 (.load1 (.t 21)) ::
oo 23 (.build [k0, k0, k0, k0, k0, k0, k0, k0] [(0, 1, (.t 20)), (2, 1, (.t 22))]) ::
oo 24 (.faddr 2 (.t 6)) ::
oo 25 (.load1 (.t 24)) ::
oo 26 (.faddr 3 (.t 6)) ::
oo 27 (.load1 (.t 26)) ::
oo 28 (.int .mul (.t 25) (.t 27)) ::
oo 29 (.int .add (.t 28) (.c (Value.int .i64 999))) ::
oo 30 (.idiv true (.t 29) (.c (Value.int .i64 1000))) ::
oo 31 (.build [k0, k0, k0, k0, k0, k0, k0, k0, k0] [(0, 8, (.t 23)), (8, 1, (.t 30))]) ::
oo 32 (.box (.t 31) 85) ::
oz (.mapup 2 (.t 16) (.t 18) (.t 32)) :: []) []) (.seq (.reg (
 oo 8 (.mv (.c (Value.nilIface))) :: [])) .ret))))
def r94 : List ResultVar := [.tmp 8]
theorem fun94 : Fun Tryz.prog 94 33 4 a94 r94 :=
  ⟨rfl, Tryz.f94, _, rfl, rfl, rfl, by decide, rfl, rfl, rfl⟩
noncomputable def a95 : ACode := (.seq (.reg (
 oo 6 (.box (.t 2) 38) ::
oo 8 (.mv (.c (Value.nilIface))) :: [])) (.seq (.seq (.reg (
 om 10 1 ::
oo 11 (.nilck (.t 10)) ::
oo 12 (.faddr 0 (.t 11)) ::
oo 13 (.faddr 1 (.t 12)) ::
oo 14 (.load1 (.t 13)) ::
oo 15 (.int .neq (.t 14) z0) :: [])) (.cond (.t 15) (.seq (.reg (
 oo 16 (.build [k0] [(0, 1, (.c (Value.int .i64 9)))]) ::
oo 17 (.mkif 171 (.t 16)) ::
om 8 17 :: [])) .ret) .skip)) (.seq (.seq (.dreg (
 om 18 0 ::
oo 19 (.nilck (.t 18)) ::
oo 20 (.faddr 0 (.t 19)) ::
oo 21 (.load1 (.t 20)) ::
om 22 1 ::
oo 23 (.nilck (.t 22)) ::
oo 24 (.faddr 0 (.t 23)) ::
oo 25 (.faddr 2 (.t 24)) ::
oo 26 (.load1 (.t 25)) ::
oo 27 (.int .sub (.t 21) (.t 26)) ::
om 28 1 ::
oo 29 (.nilck (.t 28)) ::
oo 30 (.faddr 8 (.t 29)) ::
oo 31 (.load1 (.t 30)) ::
oo 32 (.int .sub (.t 27) (.t 31)) ::
om 9 32 :: []) []) (.seq (.reg (
 om 33 9 ::
oo 34 (.int .lss (.t 33) z0) :: [])) (.cond (.t 34) (.seq (.reg (
 om 35 9 ::
oo 36 (.neg (.t 35)) ::
oo 37 (.build [k0] [(0, 1, (.t 36))]) ::
oo 38 (.mkif 173 (.t 37)) ::
om 8 38 :: [])) .ret) .skip))) (.seq (.dreg (
 om 39 0 ::
oo 40 (.nilck (.t 39)) ::
oo 41 (.faddr 0 (.t 40)) ::
oo 42 (.load1 (.t 41)) ::
om 43 1 ::
oo 44 (.nilck (.t 43)) ::
oo 45 (.faddr 0 (.t 44)) ::
oo 46 (.faddr 2 (.t 45)) ::
oo 47 (.load1 (.t 46)) ::
om 48 1 ::
oo 49 (.nilck (.t 48)) ::
oo 50 (.faddr 8 (.t 49)) ::
oo 51 (.load1 (.t 50)) ::
oo 52 (.int .add (.t 47) (.t 51)) ::
oo 53 (.int .sub (.t 42) (.t 52)) ::
oo 54 (.nilck (.t 39)) ::
oo 55 (.faddr 0 (.t 54)) ::
oz (.store 1 (.t 55) (.t 53)) :: []) []) (.seq (.dreg (
 om 56 0 ::
oo 57 (.nilck (.t 56)) ::
oo 58 (.faddr 1 (.t 57)) ::
oo 59 (.load1 (.t 58)) ::
om 60 1 ::
oo 61 (.nilck (.t 60)) ::
oo 62 (.faddr 8 (.t 61)) ::
oo 63 (.load1 (.t 62)) ::
oo 64 (.int .add (.t 59) (.t 63)) ::
oo 65 (.nilck (.t 56)) ::
oo 66 (.faddr 1 (.t 65)) ::
oz (.store 1 (.t 66) (.t 64)) :: []) []) (.seq (.reg (
 om 67 1 ::
oo 68 (.nilck (.t 67)) ::
oo 69 (.faddr 0 (.t 68)) ::
oo 70 (.faddr 1 (.t 69)) ::
oz (.store 1 (.t 70) z1) :: [])) (.seq (.reg (
 oo 8 (.mv (.c (Value.nilIface))) :: [])) .ret)))))))
def r95 : List ResultVar := [.tmp 8]
theorem fun95 : Fun Tryz.prog 95 71 4 a95 r95 :=
  ⟨rfl, Tryz.f95, _, rfl, rfl, rfl, by decide, rfl, rfl, rfl⟩
noncomputable def a96 : ACode := (.seq (.reg (
 oo 6 (.box (.t 2) 38) ::
oo 8 (.mv (.c (Value.nilIface))) :: [])) (.seq (.seq (.reg (
 om 9 1 ::
oo 10 (.nilck (.t 9)) ::
oo 11 (.faddr 0 (.t 10)) ::
oo 12 (.faddr 1 (.t 11)) ::
oo 13 (.load1 (.t 12)) ::
oo 14 (.int .neq (.t 13) z1) :: [])) (.cond (.t 14) (.seq (.reg (
 oo 15 (.build [k0] [(0, 1, (.c (Value.int .i64 9)))]) ::
oo 16 (.mkif 171 (.t 15)) ::
om 8 16 :: [])) .ret) .skip)) (.seq (.reg (
 om 17 1 ::
oo 18 (.nilck (.t 17)) ::
oo 19 (.faddr 0 (.t 18)) ::
oo 20 (.faddr 3 (.t 19)) ::
oo 21 (.load1 (.t 20)) ::
oo 22 (.int .add (.t 21) z1) ::
oo 23 (.nilck (.t 17)) ::
oo 24 (.faddr 0 (.t 23)) ::
oo 25 (.faddr 3 (.t 24)) ::
oz (.store 1 (.t 25) (.t 22)) :: [])) (.seq (.reg (
 om 26 1 ::
oo 27 (.nilck (.t 26)) ::
oo 28 (.faddr 0 (.t 27)) ::
oo 29 (.faddr 4 (.t 28)) ::
oo 30 (.load1 (.t 29)) ::
oo 31 (.int .add (.t 30) z1) ::
oo 32 (.nilck (.t 26)) ::
oo 33 (.faddr 0 (.t 32)) ::
oo 34 (.faddr 4 (.t 33)) ::
oz (.store 1 (.t 34) (.t 31)) :: [])) (.seq (.dreg (
 om 35 0 ::
oo 36 (.nilck (.t 35)) ::
oo 37 (.faddr 3 (.t 36)) ::
oo 38 (.load1 (.t 37)) ::
om 39 3 ::
om 40 0 ::
oo 41 (.nilck (.t 40)) ::
oo 42 (.faddr 4 (.t 41)) ::
oo 43 (.load1 (.t 42)) ::
om 44 3 ::
oo 45 (.faddr 1 (.t 6)) ::
oo 46 (.load1 (.t 45)) ::
oo 47 (.mapent 3 (k0) (.t 38) (.t 39)) ::
oo 48 (.extract (.t 47) 1) ::
oz (.entst (.t 38) (.t 48) z0) ::
oo 49 (.mapent 3 (k0) (.t 43) (.t 44)) ::
oo 50 (.extract (.t 49) 1) ::
oz (.entst (.t 43) (.t 50) (.t 46)) :: []) [((.t 45), (.t 38)), ((.t 45), (.t 38)), ((.t 45), (.t 43))]) (.seq (.reg (
 oo 8 (.mv (.c (Value.nilIface))) :: [])) .ret))))))
def r96 : List ResultVar := [.tmp 8]
theorem fun96 : Fun Tryz.prog 96 51 4 a96 r96 :=
  ⟨rfl, Tryz.f96, _, rfl, rfl, rfl, by decide, rfl, rfl, rfl⟩
noncomputable def a97 : ACode := (.seq (.reg (
 oo 6 (.box (.t 2) 38) ::
oo 8 (.mv (.c (Value.nilIface))) :: [])) (.seq (.seq (.reg (
 om 9 1 ::
oo 10 (.nilck (.t 9)) ::
oo 11 (.faddr 0 (.t 10)) ::
oo 12 (.faddr 1 (.t 11)) ::
oo 13 (.load1 (.t 12)) ::
oo 14 (.int .neq (.t 13) z1) :: [])) (.cond (.t 14) (.seq (.reg (
 oo 15 (.build [k0] [(0, 1, (.c (Value.int .i64 9)))]) ::
oo 16 (.mkif 171 (.t 15)) ::
om 8 16 :: [])) .ret) .skip)) (.seq (.dreg (
 om 17 0 ::
oo 18 (.nilck (.t 17)) ::
oo 19 (.faddr 0 (.t 18)) ::
oo 20 (.load1 (.t 19)) ::
om 21 1 ::
oo 22 (.nilck (.t 21)) ::
oo 23 (.faddr 0 (.t 22)) ::
oo 24 (.faddr 2 (.t 23)) ::
oo 25 (.load1 (.t 24)) ::
oo 26 (.int .add (.t 20) (.t 25)) ::
oo 27 (.nilck (.t 17)) ::
oo 28 (.faddr 0 (.t 27)) ::
oz (.store 1 (.t 28) (.t 26)) :: []) []) (.seq (.reg (
 om 29 1 ::
oo 30 (.nilck (.t 29)) ::
oo 31 (.faddr 0 (.t 30)) ::
oo 32 (.faddr 1 (.t 31)) ::
oz (.store 1 (.t 32) (.c (Value.int .i64 2))) :: [])) (.seq (.reg (
 oo 8 (.mv (.c (Value.nilIface))) :: [])) .ret)))))
def r97 : List ResultVar := [.tmp 8]
theorem fun97 : Fun Tryz.prog 97 33 4 a97 r97 :=
  ⟨rfl, Tryz.f97, _, rfl, rfl, rfl, by decide, rfl, rfl, rfl⟩
noncomputable def a98 : ACode := (.seq (.reg (
 oo 6 (.box (.t 2) 38) ::
oo 8 (.mv (.c (Value.nilIface))) :: [])) (.seq (.seq (.reg (
 om 11 1 ::
oo 12 (.nilck (.t 11)) ::
oo 13 (.faddr 0 (.t 12)) ::
oo 14 (.faddr 4 (.t 13)) ::
oo 15 (.load1 (.t 14)) ::
oo 16 (.int .eql (.t 15) z0) :: [])) (.cond (.t 16) (.seq (.reg (
 oo 17 (.build [k0] [(0, 1, (.c (Value.int .i64 16)))]) ::
oo 18 (.mkif 171 (.t 17)) ::
om 8 18 :: [])) .ret) .skip)) (.seq (.dreg (
 om 19 1 ::
oo 20 (.nilck (.t 19)) ::
oo 21 (.faddr 0 (.t 20)) ::
oo 22 (.faddr 5 (.t 21)) ::
oo 23 (.load1 (.t 22)) ::
om 24 1 ::
oo 25 (.nilck (.t 24)) ::
oo 26 (.faddr 0 (.t 25)) ::
oo 27 (.faddr 4 (.t 26)) ::
oo 28 (.load1 (.t 27)) ::
oo 29 (.faddr 2 (.t 6)) ::
oo 30 (.load1 (.t 29)) ::
oo 31 (.int .mul (.t 28) (.t 30)) ::
oo 32 (.int .add (.t 23) (.t 31)) ::
oo 33 (.nilck (.t 19)) ::
oo 34 (.faddr 0 (.t 33)) ::
oo 35 (.faddr 5 (.t 34)) ::
oz (.store 1 (.t 35) (.t 32)) :: []) []) (.seq (.reg (
 om 36 1 ::
oo 37 (.nilck (.t 36)) ::
oo 38 (.faddr 0 (.t 37)) ::
oo 39 (.faddr 4 (.t 38)) ::
oz (.store 1 (.t 39) z0) :: [])) (.seq (.seq (.reg (
 om 40 0 ::
oo 41 (.nilck (.t 40)) ::
oo 42 (.faddr 3 (.t 41)) ::
oo 43 (.load1 (.t 42)) ::
oo 44 (.mrange (.t 43)) :: [])) (.block 0 (.loop (.seq (.next (.t 44) 45 46) (.seq (.cond (.t 46) .skip (.exit 0)) (.block 1 (.seq (.reg (
 oo 47 (.entry (.t 44)) ::
oo 48 (.extract (.t 47) 0) ::
oo 49 (.extract (.t 47) 1) ::
om 9 48 ::
om 10 49 :: [])) (.seq (.dreg (
 om 50 0 ::
oo 51 (.nilck (.t 50)) ::
oo 52 (.faddr 4 (.t 51)) ::
oo 53 (.load1 (.t 52)) ::
om 54 9 ::
oo 55 (.lookup 3 (k0) false (.t 53) (.t 54)) ::
oo 56 (.faddr 1 (.t 6)) ::
oo 57 (.load1 (.t 56)) ::
oo 58 (.int .eql (.t 55) (.t 57)) ::
om 59 58 ::
og 60 59 true (.mv (.t 10)) ::
og 61 59 true (.int .eql (.t 60) z0) ::
oo 62 (.pick (.t 59) (.t 61) (.c (Value.bool false))) :: []) []) (.cond (.t 62) (.dreg (
 om 63 0 ::
oo 64 (.nilck (.t 63)) ::
oo 65 (.faddr 3 (.t 64)) ::
oo 66 (.load1 (.t 65)) ::
om 67 9 ::
oo 68 (.faddr 2 (.t 6)) ::
oo 69 (.load1 (.t 68)) ::
oz (.mapup 3 (.t 66) (.t 67) (.t 69)) :: []) []) .skip))))))))) (.seq (.reg (
 oo 8 (.mv (.c (Value.nilIface))) :: [])) .ret))))))
def r98 : List ResultVar := [.tmp 8]
theorem fun98 : FunD Tryz.prog 98 70 4 a98 r98 :=
  ⟨rfl, Tryz.f98, _, rfl, rfl, rfl, by decide, rfl, rfl, rfl⟩
noncomputable def a99 : ACode := (.seq (.reg (
 oo 6 (.box (.t 2) 38) ::
oo 8 (.mv (.c (Value.nilIface))) :: [])) (.seq (.seq (.dreg (
 oo 9 (.faddr 2 (.t 6)) ::
oo 10 (.load1 (.t 9)) ::
om 11 1 ::
oc 12 114 [(.t 11)] ::
oo 13 (.int .gtr (.t 10) (.t 12)) :: []) []) (.cond (.t 13) (.seq (.reg (
 oo 14 (.build [k0] [(0, 1, (.c (Value.int .i64 4)))]) ::
oo 15 (.mkif 171 (.t 14)) ::
om 8 15 :: [])) .ret) .skip)) (.seq (.dreg (
 om 16 1 ::
oo 17 (.nilck (.t 16)) ::
oo 18 (.faddr 0 (.t 17)) ::
oo 19 (.faddr 7 (.t 18)) ::
oo 20 (.load1 (.t 19)) ::
oo 21 (.faddr 2 (.t 6)) ::
oo 22 (.load1 (.t 21)) ::
oo 23 (.int .add (.t 20) (.t 22)) ::
oo 24 (.nilck (.t 16)) ::
oo 25 (.faddr 0 (.t 24)) ::
oo 26 (.faddr 7 (.t 25)) ::
oz (.store 1 (.t 26) (.t 23)) :: []) []) (.seq (.reg (
 oo 8 (.mv (.c (Value.nilIface))) :: [])) .ret))))
def r99 : List ResultVar := [.tmp 8]
theorem fun99 : Fun Tryz.prog 99 27 4 a99 r99 :=
  ⟨rfl, Tryz.f99, _, rfl, rfl, rfl, by decide, rfl, rfl, rfl⟩
noncomputable def a100 : ACode := (.seq (.reg (
 oo 6 (.box (.t 2) 38) ::
oo 8 (.mv (.c (Value.nilIface))) :: [])) (.seq (.reg (
 oo 12 (.faddr 2 (.t 6)) ::
oo 13 (.load1 (.t 12)) ::
om 9 13 :: [])) (.seq (.reg (
 om 15 0 ::
oo 16 (.nilck (.t 15)) ::
oo 17 (.faddr 3 (.t 16)) ::
oo 18 (.load1 (.t 17)) ::
om 19 9 ::
oo 20 (.lookup 3 (k0) true (.t 18) (.t 19)) ::
om 14 20 ::
oo 21 (.extract (.t 14) 0) ::
oo 22 (.extract (.t 14) 1) ::
om 10 21 ::
om 11 22 :: [])) (.seq (.seq (.dreg (
 om 23 11 ::
oo 24 (.not (.t 23)) ::
om 25 24 ::
og 26 25 false (.mv (.t 10)) ::
og 27 25 false (.int .eql (.t 26) z0) ::
oo 28 (.pick (.t 25) (.c (Value.bool true)) (.t 27)) ::
om 29 28 ::
og 30 29 false (.mv (.t 0)) ::
og 31 29 false (.nilck (.t 30)) ::
og 32 29 false (.faddr 4 (.t 31)) ::
og 33 29 false (.load1 (.t 32)) ::
og 34 29 false (.mv (.t 9)) ::
og 35 29 false (.lookup 3 (k0) false (.t 33) (.t 34)) ::
og 36 29 false (.faddr 1 (.t 6)) ::
og 37 29 false (.load1 (.t 36)) ::
og 38 29 false (.int .neq (.t 35) (.t 37)) ::
oo 39 (.pick (.t 29) (.c (Value.bool true)) (.t 38)) :: []) []) (.cond (.t 39) (.seq (.reg (
 oo 40 (.build [k0] [(0, 1, (.c (Value.int .i64 23)))]) ::
oo 41 (.mkif 171 (.t 40)) ::
om 8 41 :: [])) .ret) .skip)) (.seq (.reg (
 om 42 1 ::
oo 43 (.nilck (.t 42)) ::
oo 44 (.faddr 0 (.t 43)) ::
oo 45 (.faddr 6 (.t 44)) ::
oo 46 (.load1 (.t 45)) ::
om 47 10 ::
oo 48 (.int .add (.t 46) (.t 47)) ::
oo 49 (.nilck (.t 42)) ::
oo 50 (.faddr 0 (.t 49)) ::
oo 51 (.faddr 6 (.t 50)) ::
oz (.store 1 (.t 51) (.t 48)) :: [])) (.seq (.reg (
 om 52 0 ::
oo 53 (.nilck (.t 52)) ::
oo 54 (.faddr 3 (.t 53)) ::
oo 55 (.load1 (.t 54)) ::
om 56 9 ::
oz (.delete 3 (.t 55) (.t 56)) :: [])) (.seq (.reg (
 oo 8 (.mv (.c (Value.nilIface))) :: [])) .ret)))))))
def r100 : List ResultVar := [.tmp 8]
theorem fun100 : Fun Tryz.prog 100 57 4 a100 r100 :=
  ⟨rfl, Tryz.f100, _, rfl, rfl, rfl, by decide, rfl, rfl, rfl⟩
noncomputable def a101 : ACode := (.seq (.reg (
 oo 2 (.mv z0) ::
oo 3 (.mv (.c (Value.bool false))) :: [])) (.seq (.reg (
 oo 4 (.mv z0) :: [])) (.seq (.seq (.reg (
 om 7 0 ::
oo 8 (.srange (.t 7)) :: [])) (.block 0 (.loop (.seq (.reg (
 oo 9 (.snext (.t 8)) ::
oo 10 (.extract (.t 9) 0) :: [])) (.seq (.cond (.t 10) .skip (.exit 0)) (.block 1 (.seq (.reg (
 oo 11 (.extract (.t 9) 2) ::
om 6 11 :: [])) (.seq (.seq (.reg (
 om 12 6 ::
oo 13 (.pure (rawOp Tryz.f101 5 1)) ::
om 14 13 ::
og 15 14 false (.mv (.t 6)) ::
og 16 14 false (.pure (rawOp Tryz.f101 5 4)) ::
oo 17 (.pick (.t 14) (.c (Value.bool true)) (.t 16)) ::
om 18 17 ::
og 19 18 false (.mv (.t 4)) ::
og 20 18 false (.int .gtr (.t 19) (.c (Value.int .i64 1099511627776))) ::
oo 21 (.pick (.t 18) (.c (Value.bool true)) (.t 20)) :: [])) (.cond (.t 21) (.seq (.reg (
 oo 2 (.mv z0) ::
oo 3 (.mv (.c (Value.bool false))) :: [])) .ret) .skip)) (.reg (
 om 22 4 ::
oo 23 (.int .mul (.c (Value.int .i64 10)) (.t 22)) ::
om 24 6 ::
oo 25 (.pure (rawOp Tryz.f101 7 3)) ::
oo 26 (.conv .i64 (.t 25)) ::
oo 27 (.int .add (.t 23) (.t 26)) ::
om 4 27 :: [])))))))))) (.seq (.reg (
 om 28 4 ::
om 29 4 ::
oc 30 88 [(.t 29), (.c (Value.int .i64 10))] ::
om 31 0 ::
oo 32 (.pure (rawOp Tryz.f101 8 4)) ::
om 2 28 ::
om 3 32 :: [])) .ret))))
def r101 : List ResultVar := [.tmp 2, .tmp 3]
theorem fun101 : Fun Tryz.prog 101 33 1 a101 r101 :=
  ⟨rfl, Tryz.f101, _, rfl, rfl, rfl, by decide, rfl, rfl, rfl⟩
noncomputable def a114 : ACode := (.seq (.reg (
 oo 2 (.mv z0) :: [])) (.seq (.dreg (
 om 3 0 ::
oo 4 (.nilck (.t 3)) ::
oo 5 (.faddr 0 (.t 4)) ::
oo 6 (.faddr 5 (.t 5)) ::
oo 7 (.load1 (.t 6)) ::
om 8 0 ::
oo 9 (.nilck (.t 8)) ::
oo 10 (.faddr 0 (.t 9)) ::
oo 11 (.faddr 6 (.t 10)) ::
oo 12 (.load1 (.t 11)) ::
oo 13 (.int .sub (.t 7) (.t 12)) ::
om 14 0 ::
oo 15 (.nilck (.t 14)) ::
oo 16 (.faddr 0 (.t 15)) ::
oo 17 (.faddr 7 (.t 16)) ::
oo 18 (.load1 (.t 17)) ::
oo 19 (.int .sub (.t 13) (.t 18)) ::
om 2 19 :: []) []) .ret))
def r114 : List ResultVar := [.tmp 2]
theorem fun114 : Fun Tryz.prog 114 20 1 a114 r114 :=
  ⟨rfl, Tryz.f114, _, rfl, rfl, rfl, by decide, rfl, rfl, rfl⟩
noncomputable def a176 : ACode := (.seq (.reg (
 oo 1 (.box (.t 0) 171) ::
oo 2 (.mv z0) :: [])) (.seq (.reg (
 oo 3 (.faddr 0 (.t 1)) ::
oo 4 (.load1 (.t 3)) ::
om 2 4 :: [])) .ret))
def r176 : List ResultVar := [.tmp 2]
theorem fun176 : Fun Tryz.prog 176 5 1 a176 r176 :=
  ⟨rfl, Tryz.f176, _, rfl, rfl, rfl, by decide, rfl, rfl, rfl⟩
noncomputable def a177 : ACode := (.seq (.reg (
 oo 1 (.box (.t 0) 173) ::
oo 2 (.mv z0) :: [])) (.seq (.reg (
 oo 2 (.mv (.c (Value.int .i64 10))) :: [])) .ret))
def r177 : List ResultVar := [.tmp 2]
theorem fun177 : Fun Tryz.prog 177 3 1 a177 r177 :=
  ⟨rfl, Tryz.f177, _, rfl, rfl, rfl, by decide, rfl, rfl, rfl⟩
end AE.Tryz
