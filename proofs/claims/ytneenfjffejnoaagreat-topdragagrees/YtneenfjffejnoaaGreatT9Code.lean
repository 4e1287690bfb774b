/- Made by gen3.py: the code of the functions, compiled for the evaluator; each is that of the program, by evaluation. -/
import Derived.Test.YtneenfjffejnoaaGreatProg
import Derived.Test.YtneenfjffejnoaaGreatAEtwo
set_option linter.unusedVariables false
set_option linter.unusedSimpArgs false
set_option linter.unusedSectionVars false
namespace AE.Tryz
open Go AE Go.Proofs
set_option maxRecDepth 1000000
set_option maxHeartbeats 4000000
abbrev oo (d : Nat) (x : AOp) : AOper := ⟨some d, none, .op x⟩
abbrev og (d g : Nat) (b : Bool) (x : AOp) : AOper := ⟨some d, some (g, b), .op x⟩
abbrev oz (x : AOp) : AOper := ⟨none, none, .op x⟩
abbrev oc (d f : Nat) (l : List Opd) : AOper := ⟨some d, none, .call (.c (Value.func (.func f) #[] #[])) l⟩
abbrev ocg (d g : Nat) (b : Bool) (f : Nat) (l : List Opd) : AOper := ⟨some d, some (g, b), .call (.c (Value.func (.func f) #[] #[])) l⟩
abbrev om (d s : Nat) : AOper := ⟨some d, none, .op (.mv (.t s))⟩
abbrev z0 : Opd := .c (Value.int .i64 0)
abbrev z1 : Opd := .c (Value.int .i64 1)
abbrev k0 : Value := .int .i64 0
noncomputable def a4 : ACode := (.seq (.reg (
 oo 2 (.box (.t 0) 67) ::
oo 4 (.mv (.c (Value.bool false))) :: [])) (.seq (.seq (.reg (
 oo 15 (.loadn 16 (.t 2)) ::
oc 16 21 [(.t 15)] ::
oo 17 (.int .neq (.t 16) z0) ::
om 18 17 ::
og 19 18 false (.mv (.t 1)) ::
og 20 18 false (.len (.t 19)) ::
og 21 18 false (.int .lss (.t 20) z1) ::
oo 22 (.pick (.t 18) (.c (Value.bool true)) (.t 21)) ::
om 23 22 ::
og 24 23 false (.mv (.t 1)) ::
og 25 23 false (.len (.t 24)) ::
og 26 23 false (.int .gtr (.t 25) (.c (Value.int .i64 4))) ::
oo 27 (.pick (.t 23) (.c (Value.bool true)) (.t 26)) :: [])) (.cond (.t 27) (.seq (.reg (
 oc 28 7 [] ::
om 4 28 :: [])) .ret) .skip)) (.seq (.reg (
 om 29 1 ::
oo 30 (.len (.t 29)) ::
oo 31 (.build [k0, k0, k0, k0, Value.slice none 0 0] [(0, 1, (.t 30)), (1, 1, z1)]) ::
oo 5 (.alloc [k0, k0, k0, k0, Value.slice none 0 0] 31) ::
oz (.store 5 (.t 5) (.t 31)) :: [])) (.seq (.seq (.reg (
 oo 6 (.mv z0) :: [])) (.block 0 (.loop (.seq (.seq (.reg (
 om 32 6 ::
om 33 1 ::
oo 34 (.len (.t 33)) ::
oo 35 (.int .lss (.t 32) (.t 34)) :: [])) (.cond (.t 35) .skip (.exit 0))) (.seq (.block 1 (.seq (.reg (
 om 38 1 ::
om 39 6 ::
oo 40 (.ixsl 2 (.t 38) (.t 39)) ::
oo 41 (.faddr 0 (.t 40)) ::
oo 42 (.load1 (.t 41)) ::
oo 43 (.len (.t 42)) ::
oo 44 (.int .gtr (.t 43) (.c (Value.int .i64 12))) ::
om 45 44 ::
og 46 45 false (.mv (.t 1)) ::
og 47 45 false (.mv (.t 6)) ::
og 48 45 false (.ixsl 2 (.t 46) (.t 47)) ::
og 49 45 false (.faddr 1 (.t 48)) ::
og 50 45 false (.load1 (.t 49)) ::
og 51 45 false (.len (.t 50)) ::
og 52 45 false (.int .gtr (.t 51) (.c (Value.int .i64 12))) ::
oo 53 (.pick (.t 45) (.c (Value.bool true)) (.t 52)) ::
om 54 53 ::
og 55 54 false (.mv (.t 1)) ::
og 56 54 false (.mv (.t 6)) ::
og 57 54 false (.ixsl 2 (.t 55) (.t 56)) ::
og 58 54 false (.loadn 2 (.t 57)) ::
ocg 59 54 false 22 [(.t 58)] ::
og 60 54 false (.int .neq (.t 59) z0) ::
oo 61 (.pick (.t 54) (.c (Value.bool true)) (.t 60)) :: [])) (.cond (.t 61) (.seq (.reg (
 oc 62 7 [] ::
om 4 62 :: [])) .ret) .skip))) (.reg (
 om 36 6 ::
oo 37 (.int .add (.t 36) z1) ::
om 6 37 :: []))))))) (.seq (.reg (
 oo 64 (.loadn 16 (.t 2)) ::
om 65 1 ::
oc 66 23 [(.t 64), (.t 65)] ::
om 63 66 ::
oo 67 (.extract (.t 63) 0) ::
oo 68 (.extract (.t 63) 1) ::
oo 7 (.alloc [k0, k0] 23) ::
oz (.store 2 (.t 7) (.t 67)) ::
om 8 68 :: [])) (.seq (.seq (.reg (
 om 69 8 ::
oo 70 (.int .neq (.t 69) z0) :: [])) (.cond (.t 70) (.seq (.reg (
 om 71 8 ::
oo 72 (.int .eql (.t 71) (.c (Value.int .i64 19))) ::
om 73 72 ::
ocg 74 73 true 7 [] ::
oo 75 (.pick (.t 73) (.t 74) (.c (Value.bool false))) ::
om 4 75 :: [])) .ret) .skip)) (.seq (.reg (
 oo 9 (.mv (.c (Value.int .i64 (-1000000)))) ::
oo 10 (.mv (.c (Value.int .i64 1000000))) :: [])) (.seq (.seq (.reg (
 oo 11 (.mv z0) :: [])) (.block 2 (.loop (.seq (.seq (.reg (
 om 76 11 ::
om 77 1 ::
oo 78 (.len (.t 77)) ::
oo 79 (.int .lss (.t 76) (.t 78)) :: [])) (.cond (.t 79) .skip (.exit 2))) (.seq (.block 3 (.seq (.dreg (
 oo 83 (.loadn 16 (.t 2)) ::
om 84 1 ::
om 85 11 ::
om 86 11 ::
oo 87 (.int .add (.t 86) z1) ::
oo 88 (.slsl 2 (.t 84) (some (.t 85)) (some (.t 87)) none) ::
oc 89 23 [(.t 83), (.t 88)] ::
om 82 89 ::
oo 90 (.extract (.t 82) 0) ::
oo 91 (.extract (.t 82) 1) ::
oo 12 (.alloc [k0, k0] 23) ::
oz (.store 2 (.t 12) (.t 90)) ::
om 13 91 :: []) []) (.seq (.seq (.reg (
 om 92 13 ::
oo 93 (.int .neq (.t 92) z0) ::
om 94 93 ::
og 95 94 false (.faddr 0 (.t 12)) ::
og 96 94 false (.load1 (.t 95)) ::
og 97 94 false (.faddr 1 (.t 12)) ::
og 98 94 false (.load1 (.t 97)) ::
og 99 94 false (.int .gtr (.t 96) (.t 98)) ::
oo 100 (.pick (.t 94) (.c (Value.bool true)) (.t 99)) ::
om 101 100 ::
og 102 101 false (.faddr 0 (.t 12)) ::
og 103 101 false (.load1 (.t 102)) ::
og 104 101 false (.faddr 0 (.t 7)) ::
og 105 101 false (.load1 (.t 104)) ::
og 106 101 false (.int .lss (.t 103) (.t 105)) ::
oo 107 (.pick (.t 101) (.c (Value.bool true)) (.t 106)) ::
om 108 107 ::
og 109 108 false (.faddr 1 (.t 12)) ::
og 110 108 false (.load1 (.t 109)) ::
og 111 108 false (.faddr 1 (.t 7)) ::
og 112 108 false (.load1 (.t 111)) ::
og 113 108 false (.int .gtr (.t 110) (.t 112)) ::
oo 114 (.pick (.t 108) (.c (Value.bool true)) (.t 113)) :: [])) (.cond (.t 114) (.seq (.reg (
 oo 4 (.mv (.c (Value.bool false))) :: [])) .ret) .skip)) (.seq (.seq (.reg (
 oo 115 (.faddr 0 (.t 12)) ::
oo 116 (.load1 (.t 115)) ::
oo 117 (.int .lss (.t 116) (.c (Value.int .i64 (-1000000)))) ::
om 118 117 ::
og 119 118 false (.faddr 1 (.t 12)) ::
og 120 118 false (.load1 (.t 119)) ::
og 121 118 false (.int .gtr (.t 120) (.c (Value.int .i64 1000000))) ::
oo 122 (.pick (.t 118) (.c (Value.bool true)) (.t 121)) :: [])) (.cond (.t 122) (.seq (.reg (
 oc 123 7 [] ::
om 4 123 :: [])) .ret) .skip)) (.seq (.dreg (
 om 124 9 ::
oo 125 (.faddr 0 (.t 12)) ::
oo 126 (.load1 (.t 125)) ::
oo 127 (.mnmx true (.t 124) (.t 126)) ::
om 128 10 ::
oo 129 (.faddr 1 (.t 12)) ::
oo 130 (.load1 (.t 129)) ::
oo 131 (.mnmx false (.t 128) (.t 130)) ::
om 9 127 ::
om 10 131 :: []) []) (.reg (
 oo 132 (.faddr 4 (.t 5)) ::
oo 133 (.load1 (.t 132)) ::
om 134 11 ::
oo 135 (.loadn 2 (.t 12)) ::
oo 136 (.build [k0, k0, k0, k0] [(0, 1, (.t 134)), (2, 2, (.t 135))]) ::
oo 137 (.bslice [k0, k0, k0, k0] [(0, 4, (.t 136))] 1 33) ::
oo 138 (.append 33 4 32 (.t 133) (.t 137)) ::
oo 139 (.faddr 4 (.t 5)) ::
oz (.store 1 (.t 139) (.t 138)) :: []))))))) (.reg (
 om 80 11 ::
oo 81 (.int .add (.t 80) z1) ::
om 11 81 :: []))))))) (.seq (.reg (
 oo 141 (.loadn 5 (.t 5)) ::
oc 142 19 [(.t 141), z0] ::
om 140 142 ::
oo 143 (.extract (.t 140) 0) ::
oo 144 (.extract (.t 140) 1) ::
oo 14 (.alloc [k0, k0] 23) ::
oz (.store 2 (.t 14) (.t 143)) ::
om 8 144 :: [])) (.seq (.seq (.reg (
 om 145 9 ::
om 146 10 ::
oo 147 (.int .gtr (.t 145) (.t 146)) :: [])) (.cond (.t 147) (.seq (.reg (
 om 148 8 ::
oo 149 (.int .eql (.t 148) (.c (Value.int .i64 20))) ::
om 150 149 ::
ocg 151 150 true 7 [] ::
oo 152 (.pick (.t 150) (.t 151) (.c (Value.bool false))) ::
om 4 152 :: [])) .ret) .skip)) (.seq (.reg (
 om 153 8 ::
oo 154 (.int .eql (.t 153) z0) ::
om 155 154 ::
og 156 155 true (.loadn 2 (.t 14)) ::
og 157 155 true (.mv (.t 9)) ::
og 158 155 true (.mv (.t 10)) ::
og 159 155 true (.build [k0, k0] [(0, 1, (.t 157)), (1, 1, (.t 158))]) ::
og 160 155 true (.pure (rawOp Tryz.f4 26 7)) ::
oo 161 (.pick (.t 155) (.t 160) (.c (Value.bool false))) ::
om 162 161 ::
ocg 163 162 true 7 [] ::
oo 164 (.pick (.t 162) (.t 163) (.c (Value.bool false))) ::
om 4 164 :: [])) .ret)))))))))))
def r4 : List ResultVar := [.tmp 4]
theorem fun4 : Fun Tryz.prog 4 165 2 a4 r4 :=
  ⟨rfl, Tryz.f4, _, rfl, rfl, rfl, by decide, rfl, rfl, rfl⟩
noncomputable def a7 : ACode := (.seq (.reg (
 oo 0 (.mv (.c (Value.bool false))) :: [])) (.seq (.reg (
 oc 1 32 [] ::
om 2 1 ::
ocg 3 2 true 33 [] ::
oo 4 (.pick (.t 2) (.t 3) (.c (Value.bool false))) ::
om 5 4 ::
ocg 6 5 true 34 [] ::
oo 7 (.pick (.t 5) (.t 6) (.c (Value.bool false))) ::
om 0 7 :: [])) .ret))
def r7 : List ResultVar := [.tmp 0]
theorem fun7 : Fun Tryz.prog 7 8 0 a7 r7 :=
  ⟨rfl, Tryz.f7, _, rfl, rfl, rfl, by decide, rfl, rfl, rfl⟩
noncomputable def a19 : ACode := (.seq (.reg (
 oo 2 (.box (.t 0) 31) ::
oo 4 (.alloc [k0, k0] 23) ::
oo 5 (.mv z0) :: [])) (.seq (.reg (
 oo 12 (.loadn 5 (.t 2)) ::
om 13 1 ::
oo 14 (.bslice [k0] [(0, 1, (.t 13))] 1 3) ::
oc 15 55 [(.t 12), (.t 14)] ::
om 11 15 ::
oo 16 (.extract (.t 11) 0) ::
oo 17 (.extract (.t 11) 1) ::
oo 18 (.extract (.t 11) 2) ::
om 6 16 ::
om 7 17 ::
om 8 18 :: [])) (.seq (.seq (.reg (
 om 19 8 ::
oo 20 (.int .neq (.t 19) z0) :: [])) (.cond (.t 20) (.seq (.reg (
 oo 21 (.build [k0, k0] []) ::
om 22 8 ::
oz (.store 2 (.t 4) (.t 21)) ::
om 5 22 :: [])) .ret) .skip)) (.seq (.reg (
 om 24 6 ::
oc 25 56 [(.t 24)] ::
oc 26 40 [(.t 25)] ::
om 23 26 ::
oo 27 (.extract (.t 23) 0) ::
oo 28 (.extract (.t 23) 1) ::
om 9 27 ::
om 10 28 :: [])) (.seq (.dreg (
 om 29 7 ::
oc 30 41 [(.t 29), z1] ::
oo 31 (.field1 1 (.t 30)) ::
om 32 1 ::
oo 33 (.ixsl 1 (.t 31) (.t 32)) ::
oo 34 (.load1 (.t 33)) ::
om 35 9 ::
oc 36 41 [(.t 35), (.c (Value.int .i64 (-1)))] ::
oo 37 (.field1 1 (.t 36)) ::
om 38 1 ::
oo 39 (.ixsl 1 (.t 37) (.t 38)) ::
oo 40 (.load1 (.t 39)) ::
oo 41 (.build [k0, k0] [(0, 1, (.t 34)), (1, 1, (.t 40))]) ::
oz (.store 2 (.t 4) (.t 41)) ::
oo 5 (.mv z0) :: []) []) .ret)))))
def r19 : List ResultVar := [.cell 4 23, .tmp 5]
theorem fun19 : Fun Tryz.prog 19 42 2 a19 r19 :=
  ⟨rfl, Tryz.f19, _, rfl, rfl, rfl, by decide, rfl, rfl, rfl⟩
noncomputable def a21 : ACode := (.seq (.reg (
 oo 1 (.box (.t 0) 67) ::
oo 2 (.mv z0) :: [])) (.seq (.seq (.reg (
 oo 3 (.faddr 0 (.t 1)) ::
oo 4 (.load1 (.t 3)) ::
oc 5 59 [(.t 4), z1, (.c (Value.int .i64 10000))] ::
oo 6 (.not (.t 5)) ::
om 7 6 ::
og 8 7 false (.faddr 1 (.t 1)) ::
og 9 7 false (.load1 (.t 8)) ::
ocg 10 7 false 59 [(.t 9), z1, (.c (Value.int .i64 10000))] ::
og 11 7 false (.not (.t 10)) ::
oo 12 (.pick (.t 7) (.c (Value.bool true)) (.t 11)) ::
om 13 12 ::
og 14 13 false (.faddr 2 (.t 1)) ::
og 15 13 false (.load1 (.t 14)) ::
ocg 16 13 false 59 [(.t 15), z1, (.c (Value.int .i64 1000000))] ::
og 17 13 false (.not (.t 16)) ::
oo 18 (.pick (.t 13) (.c (Value.bool true)) (.t 17)) ::
om 19 18 ::
og 20 19 false (.faddr 3 (.t 1)) ::
og 21 19 false (.load1 (.t 20)) ::
ocg 22 19 false 59 [(.t 21), z1, (.c (Value.int .i64 10))] ::
og 23 19 false (.not (.t 22)) ::
oo 24 (.pick (.t 19) (.c (Value.bool true)) (.t 23)) ::
om 25 24 ::
og 26 25 false (.faddr 4 (.t 1)) ::
og 27 25 false (.loadn 2 (.t 26)) ::
ocg 28 25 false 60 [(.t 27), z0, (.c (Value.int .i64 100000000))] ::
og 29 25 false (.not (.t 28)) ::
oo 30 (.pick (.t 25) (.c (Value.bool true)) (.t 29)) ::
om 31 30 ::
og 32 31 false (.faddr 6 (.t 1)) ::
og 33 31 false (.loadn 2 (.t 32)) ::
ocg 34 31 false 60 [(.t 33), (.c (Value.int .i64 500)), (.c (Value.int .i64 3000))] ::
og 35 31 false (.not (.t 34)) ::
oo 36 (.pick (.t 31) (.c (Value.bool true)) (.t 35)) ::
om 37 36 ::
og 38 37 false (.faddr 8 (.t 1)) ::
og 39 37 false (.loadn 2 (.t 38)) ::
ocg 40 37 false 60 [(.t 39), (.c (Value.int .i64 500)), (.c (Value.int .i64 3000))] ::
og 41 37 false (.not (.t 40)) ::
oo 42 (.pick (.t 37) (.c (Value.bool true)) (.t 41)) ::
om 43 42 ::
og 44 43 false (.faddr 10 (.t 1)) ::
og 45 43 false (.loadn 2 (.t 44)) ::
ocg 46 43 false 60 [(.t 45), z0, (.c (Value.int .i64 1000))] ::
og 47 43 false (.not (.t 46)) ::
oo 48 (.pick (.t 43) (.c (Value.bool true)) (.t 47)) ::
om 49 48 ::
og 50 49 false (.faddr 12 (.t 1)) ::
og 51 49 false (.loadn 2 (.t 50)) ::
ocg 52 49 false 60 [(.t 51), z0, (.c (Value.int .i64 200))] ::
og 53 49 false (.not (.t 52)) ::
oo 54 (.pick (.t 49) (.c (Value.bool true)) (.t 53)) ::
om 55 54 ::
og 56 55 false (.faddr 14 (.t 1)) ::
og 57 55 false (.loadn 2 (.t 56)) ::
ocg 58 55 false 60 [(.t 57), z0, (.c (Value.int .i64 2000))] ::
og 59 55 false (.not (.t 58)) ::
oo 60 (.pick (.t 55) (.c (Value.bool true)) (.t 59)) :: [])) (.cond (.t 60) (.seq (.reg (
 oo 2 (.mv (.c (Value.int .i64 2))) :: [])) .ret) .skip)) (.seq (.reg (
 oo 2 (.mv z0) :: [])) .ret)))
def r21 : List ResultVar := [.tmp 2]
theorem fun21 : Fun Tryz.prog 21 61 1 a21 r21 :=
  ⟨rfl, Tryz.f21, _, rfl, rfl, rfl, by decide, rfl, rfl, rfl⟩
noncomputable def a22 : ACode := (.seq (.reg (
 oo 1 (.box (.t 0) 71) ::
oo 2 (.mv z0) :: [])) (.seq (.seq (.reg (
 oo 4 (.faddr 0 (.t 1)) ::
oo 5 (.load1 (.t 4)) ::
oo 6 (.len (.t 5)) ::
oo 7 (.int .lss (.t 6) (.c (Value.int .i64 2))) ::
om 8 7 ::
og 9 8 false (.faddr 0 (.t 1)) ::
og 10 8 false (.load1 (.t 9)) ::
og 11 8 false (.len (.t 10)) ::
og 12 8 false (.int .gtr (.t 11) (.c (Value.int .i64 12))) ::
oo 13 (.pick (.t 8) (.c (Value.bool true)) (.t 12)) :: [])) (.cond (.t 13) (.seq (.reg (
 oo 2 (.mv (.c (Value.int .i64 6))) :: [])) .ret) .skip)) (.seq (.seq (.reg (
 oo 14 (.faddr 1 (.t 1)) ::
oo 15 (.load1 (.t 14)) ::
oo 16 (.len (.t 15)) ::
oo 17 (.faddr 0 (.t 1)) ::
oo 18 (.load1 (.t 17)) ::
oo 19 (.len (.t 18)) ::
oo 20 (.int .neq (.t 16) (.t 19)) :: [])) (.cond (.t 20) (.seq (.reg (
 oo 2 (.mv (.c (Value.int .i64 15))) :: [])) .ret) .skip)) (.seq (.seq (.reg (
 oo 3 (.mv z0) :: [])) (.block 0 (.loop (.seq (.seq (.reg (
 om 21 3 ::
oo 22 (.faddr 0 (.t 1)) ::
oo 23 (.load1 (.t 22)) ::
oo 24 (.len (.t 23)) ::
oo 25 (.int .lss (.t 21) (.t 24)) :: [])) (.cond (.t 25) .skip (.exit 0))) (.seq (.block 1 (.seq (.dreg (
 oo 28 (.faddr 0 (.t 1)) ::
oo 29 (.load1 (.t 28)) ::
om 30 3 ::
oo 31 (.ixsl 1 (.t 29) (.t 30)) ::
oo 32 (.load1 (.t 31)) ::
oc 33 59 [(.t 32), z1, (.c (Value.int .i64 1000000000))] ::
oo 34 (.not (.t 33)) ::
om 35 34 ::
og 36 35 false (.faddr 1 (.t 1)) ::
og 37 35 false (.load1 (.t 36)) ::
og 38 35 false (.mv (.t 3)) ::
og 39 35 false (.ixsl 1 (.t 37) (.t 38)) ::
og 40 35 false (.load1 (.t 39)) ::
ocg 41 35 false 59 [(.t 40), z0, (.c (Value.int .i64 100000))] ::
og 42 35 false (.not (.t 41)) ::
oo 43 (.pick (.t 35) (.c (Value.bool true)) (.t 42)) ::
om 44 43 ::
og 45 44 false (.mv (.t 3)) ::
og 46 44 false (.int .gtr (.t 45) z0) ::
og 47 44 false (.mv (.t 46)) ::
og 48 47 true (.faddr 0 (.t 1)) ::
og 49 47 true (.load1 (.t 48)) ::
og 50 47 true (.mv (.t 3)) ::
og 51 47 true (.ixsl 1 (.t 49) (.t 50)) ::
og 52 47 true (.load1 (.t 51)) ::
og 53 47 true (.faddr 0 (.t 1)) ::
og 54 47 true (.load1 (.t 53)) ::
og 55 47 true (.mv (.t 3)) ::
og 56 47 true (.int .sub (.t 55) z1) ::
og 57 47 true (.ixsl 1 (.t 54) (.t 56)) ::
og 58 47 true (.load1 (.t 57)) ::
og 59 47 true (.int .leq (.t 52) (.t 58)) ::
og 60 47 true (.mv (.t 59)) ::
og 61 60 false (.faddr 1 (.t 1)) ::
og 62 60 false (.load1 (.t 61)) ::
og 63 60 false (.mv (.t 3)) ::
og 64 60 false (.ixsl 1 (.t 62) (.t 63)) ::
og 65 60 false (.load1 (.t 64)) ::
og 66 60 false (.faddr 1 (.t 1)) ::
og 67 60 false (.load1 (.t 66)) ::
og 68 60 false (.mv (.t 3)) ::
og 69 60 false (.int .sub (.t 68) z1) ::
og 70 60 false (.ixsl 1 (.t 67) (.t 69)) ::
og 71 60 false (.load1 (.t 70)) ::
og 72 60 false (.int .gtr (.t 65) (.t 71)) ::
og 73 47 true (.pick (.t 60) (.c (Value.bool true)) (.t 72)) ::
og 74 44 false (.pick (.t 47) (.t 73) (.c (Value.bool false))) ::
oo 75 (.pick (.t 44) (.c (Value.bool true)) (.t 74)) :: []) []) (.cond (.t 75) (.seq (.reg (
 oo 2 (.mv (.c (Value.int .i64 2))) :: [])) .ret) .skip))) (.reg (
 om 26 3 ::
oo 27 (.int .add (.t 26) z1) ::
om 3 27 :: []))))))) (.seq (.reg (
 oo 2 (.mv z0) :: [])) .ret)))))
def r22 : List ResultVar := [.tmp 2]
theorem fun22 : Fun Tryz.prog 22 76 1 a22 r22 :=
  ⟨rfl, Tryz.f22, _, rfl, rfl, rfl, by decide, rfl, rfl, rfl⟩
noncomputable def a23 : ACode := (.seq (.reg (
 oo 2 (.box (.t 0) 67) ::
oo 4 (.alloc [k0, k0] 23) ::
oo 5 (.mv z0) :: [])) (.seq (.reg (
 oo 9 (.loadn 16 (.t 2)) ::
om 10 1 ::
oc 11 61 [(.t 9), (.t 10)] ::
om 8 11 ::
oo 12 (.extract (.t 8) 0) ::
oo 13 (.extract (.t 8) 1) ::
oo 6 (.alloc [k0, k0, k0, k0, k0, k0, k0, k0, k0, k0, k0, k0, k0, k0, k0, k0] 135) ::
oz (.store 16 (.t 6) (.t 12)) ::
om 7 13 :: [])) (.seq (.seq (.reg (
 om 14 7 ::
oo 15 (.int .neq (.t 14) z0) :: [])) (.cond (.t 15) (.seq (.reg (
 oo 16 (.build [k0, k0] []) ::
om 17 7 ::
oz (.store 2 (.t 4) (.t 16)) ::
om 5 17 :: [])) .ret) .skip)) (.seq (.dreg (
 oo 18 (.loadn 16 (.t 6)) ::
om 19 1 ::
oc 20 62 [(.t 18), (.t 19), (.c (Value.int .i64 (-1)))] ::
oo 21 (.field1 7 (.t 20)) ::
oo 22 (.loadn 16 (.t 6)) ::
om 23 1 ::
oc 24 62 [(.t 22), (.t 23), z1] ::
oo 25 (.field1 7 (.t 24)) ::
oo 26 (.build [k0, k0] [(0, 1, (.t 21)), (1, 1, (.t 25))]) ::
oz (.store 2 (.t 4) (.t 26)) ::
oo 5 (.mv z0) :: []) []) .ret))))
def r23 : List ResultVar := [.cell 4 23, .tmp 5]
theorem fun23 : Fun Tryz.prog 23 27 2 a23 r23 :=
  ⟨rfl, Tryz.f23, _, rfl, rfl, rfl, by decide, rfl, rfl, rfl⟩
noncomputable def a32 : ACode := (.seq (.reg (
 oo 0 (.mv (.c (Value.bool false))) :: [])) (.seq (.reg (
 oc 1 76 [] ::
om 2 1 ::
ocg 3 2 true 77 [] ::
oo 4 (.pick (.t 2) (.t 3) (.c (Value.bool false))) ::
om 5 4 ::
ocg 6 5 true 78 [] ::
oo 7 (.pick (.t 5) (.t 6) (.c (Value.bool false))) ::
om 0 7 :: [])) .ret))
def r32 : List ResultVar := [.tmp 0]
theorem fun32 : Fun Tryz.prog 32 8 0 a32 r32 :=
  ⟨rfl, Tryz.f32, _, rfl, rfl, rfl, by decide, rfl, rfl, rfl⟩
noncomputable def a38 : ACode := (.seq (.reg (
 oo 1 (.box (.t 0) 31) ::
oo 2 (.mv z0) :: [])) (.seq (.reg (
 oo 3 (.alloc [Value.nilFunc] 178) ::
oz (.store 1 (.t 3) (.c (Value.func (.func 96) #[] #[]))) :: [])) (.seq (.block 0 (.seq (.reg (
 oo 5 (.faddr 4 (.t 1)) ::
oo 6 (.load1 (.t 5)) ::
oo 7 (.len (.t 6)) ::
oo 8 (.int .gtr (.t 7) (.c (Value.int .i64 24))) ::
om 4 8 :: [])) (.cond (.t 4) (.seq (.reg (
 oo 2 (.mv (.c (Value.int .i64 6))) :: [])) .ret) (.seq (.reg (
 oo 10 (.faddr 0 (.t 1)) ::
oo 11 (.load1 (.t 10)) ::
oo 12 (.int .lss (.t 11) z1) ::
om 13 12 ::
og 14 13 false (.faddr 0 (.t 1)) ::
og 15 13 false (.load1 (.t 14)) ::
og 16 13 false (.int .gtr (.t 15) (.c (Value.int .i64 6))) ::
oo 17 (.pick (.t 13) (.c (Value.bool true)) (.t 16)) ::
om 18 17 ::
og 19 18 false (.faddr 1 (.t 1)) ::
og 20 18 false (.load1 (.t 19)) ::
og 21 18 false (.int .lss (.t 20) z1) ::
oo 22 (.pick (.t 18) (.c (Value.bool true)) (.t 21)) ::
om 23 22 ::
og 24 23 false (.faddr 1 (.t 1)) ::
og 25 23 false (.load1 (.t 24)) ::
og 26 23 false (.int .gtr (.t 25) (.c (Value.int .i64 6))) ::
oo 27 (.pick (.t 23) (.c (Value.bool true)) (.t 26)) ::
om 28 27 ::
og 29 28 false (.faddr 2 (.t 1)) ::
og 30 28 false (.loadn 2 (.t 29)) ::
ocg 31 28 false 97 [(.t 30)] ::
og 32 28 false (.not (.t 31)) ::
oo 33 (.pick (.t 28) (.c (Value.bool true)) (.t 32)) ::
om 9 33 :: [])) (.cond (.t 9) (.seq (.reg (
 oo 2 (.mv (.c (Value.int .i64 2))) :: [])) .ret) (.seq (.reg (
 oo 35 (.faddr 4 (.t 1)) ::
oo 36 (.load1 (.t 35)) ::
oo 37 (.mkfn (Fn.func 99) [] [(.t 3), (.t 1)]) ::
oc 38 98 [(.t 36), (.t 37)] ::
om 34 38 :: [])) (.cond (.t 34) (.seq (.reg (
 oo 2 (.mv (.c (Value.int .i64 3))) :: [])) .ret) (.seq (.reg (
 oo 40 (.faddr 4 (.t 1)) ::
oo 41 (.load1 (.t 40)) ::
oc 42 98 [(.t 41), (.c (Value.func (.func 100) #[] #[]))] ::
om 39 42 :: [])) (.cond (.t 39) (.seq (.reg (
 oo 2 (.mv (.c (Value.int .i64 2))) :: [])) .ret) .skip))))))))) (.seq (.reg (
 oo 2 (.mv z0) :: [])) .ret))))
def r38 : List ResultVar := [.tmp 2]
theorem fun38 : Fun Tryz.prog 38 43 1 a38 r38 :=
  ⟨rfl, Tryz.f38, _, rfl, rfl, rfl, by decide, rfl, rfl, rfl⟩
noncomputable def a39 : ACode := (.seq (.reg (
 oo 1 (.box (.t 0) 31) ::
oo 2 (.mv (.c (Value.pointer none))) :: [])) (.seq (.reg (
 oo 9 (.loadn 5 (.t 1)) ::
oo 10 (.faddr 0 (.t 1)) ::
oo 11 (.load1 (.t 10)) ::
oo 12 (.int .add z1 (.t 11)) ::
oo 13 (.faddr 1 (.t 1)) ::
oo 14 (.load1 (.t 13)) ::
oo 15 (.int .add (.t 12) (.t 14)) ::
oo 16 (.build [k0, k0, k0, k0, Value.slice none 0 0, k0, Value.bool false, k0, Value.bool false, k0, Value.bool false, k0, Value.bool false, k0, Value.bool false, k0, Value.bool false, k0, Value.bool false, k0, Value.bool false, k0, Value.bool false, k0, Value.bool false, k0, Value.bool false, k0, Value.bool false, k0, Value.bool false, k0, Value.bool false, k0, Value.bool false, k0, Value.bool false, k0, Value.bool false, k0, Value.bool false, k0, Value.bool false, k0, Value.bool false, k0, Value.bool false, k0, Value.bool false, k0, Value.bool false, k0, Value.bool false, k0, Value.bool false, k0, Value.bool false, k0, Value.bool false, k0, Value.bool false, k0, Value.bool false, k0, Value.bool false, k0, Value.bool false, k0, Value.bool false, k0, Value.bool false, k0, Value.bool false, k0, Value.bool false, k0, Value.bool false, k0, Value.bool false, k0, Value.bool false, k0, Value.bool false, k0, Value.bool false, k0, Value.bool false, k0, Value.bool false, k0, Value.bool false, k0, Value.bool false, k0, Value.bool false, k0, Value.bool false, k0, Value.bool false, k0, Value.bool false, k0, Value.bool false, k0, Value.bool false, k0, Value.bool false, k0, Value.bool false, k0, Value.bool false, k0, Value.bool false, k0, Value.bool false, k0, Value.bool false, k0, Value.bool false, k0, Value.bool false, k0, Value.bool false, k0, Value.bool false, k0, Value.bool false, k0, Value.bool false, k0, Value.bool false, k0, Value.bool false, k0, Value.bool false, k0, Value.bool false, k0, Value.bool false, k0, Value.bool false, k0, Value.bool false, k0, Value.bool false, k0, Value.bool false, k0, Value.bool false, k0, Value.bool false, k0, Value.bool false, k0, Value.bool false, k0, Value.bool false, k0, Value.bool false, k0, Value.bool false, k0, Value.bool false, k0, Value.bool false, k0, Value.bool false, k0, Value.bool false, k0, Value.bool false, k0, Value.bool false, k0, Value.bool false, k0, Value.bool false, k0, Value.bool false, k0, Value.bool false, k0, Value.bool false, k0, Value.bool false, k0, Value.bool false, k0, Value.bool false, k0, Value.bool false, k0, Value.bool false, k0, Value.bool false, k0, Value.bool false, k0, Value.bool false, k0, Value.bool false, k0, Value.bool false, k0, Value.bool false, k0, Value.bool false, k0, Value.bool false, k0, Value.bool false, k0, Value.bool false, k0, Value.bool false, k0, Value.bool false, k0, Value.bool false, k0, Value.bool false, k0, Value.bool false, k0, Value.bool false, k0, Value.bool false, k0, Value.bool false, k0, Value.bool false, k0, Value.bool false, k0, Value.bool false, k0, Value.bool false, k0, Value.bool false, k0, Value.bool false, k0, Value.bool false, k0, Value.bool false, k0, Value.bool false, k0, Value.bool false, k0, Value.bool false, k0, Value.bool false, k0, Value.bool false, k0, Value.bool false, k0, Value.bool false, k0, Value.bool false, k0, Value.bool false, k0, Value.bool false, k0, Value.bool false, k0, Value.bool false, k0, Value.bool false, k0, Value.bool false, k0, Value.bool false, k0, Value.bool false, k0, Value.bool false, k0, Value.bool false, k0, Value.bool false, k0, Value.bool false, k0, Value.bool false, k0, Value.bool false, k0, Value.bool false, k0, Value.bool false, k0, Value.bool false, k0, Value.bool false, k0, Value.bool false, k0, Value.bool false, k0, Value.bool false, k0, Value.bool false, k0, Value.bool false, k0, Value.bool false, k0, Value.bool false, k0, Value.bool false, k0, Value.bool false, k0, Value.bool false, k0, Value.bool false, k0, Value.bool false, k0, Value.bool false, k0, Value.bool false, k0, Value.bool false, k0, Value.bool false, k0, Value.bool false, k0, Value.bool false, k0, Value.bool false, k0, Value.bool false, k0, Value.bool false, k0, Value.bool false, k0, Value.bool false, k0] [(0, 5, (.t 9)), (5, 1, (.t 15))]) ::
oo 17 (.box (.t 16) 187) ::
om 3 17 :: [])) (.seq (.seq (.reg (
 om 18 3 ::
oo 19 (.nilck (.t 18)) ::
oo 20 (.faddr 0 (.t 19)) ::
oo 21 (.faddr 0 (.t 20)) ::
oo 22 (.load1 (.t 21)) ::
oo 23 (.mv z0) :: [])) (.block 0 (.loop (.seq (.reg (
 oo 24 (.int .lss (.t 23) (.t 22)) :: [])) (.seq (.cond (.t 24) .skip (.exit 0)) (.seq (.block 1 (.seq (.reg (
 om 25 23 ::
om 4 25 :: [])) (.seq (.reg (
 om 26 3 ::
om 27 4 ::
oo 28 (.int .add z1 (.t 27)) ::
om 29 3 ::
oo 30 (.nilck (.t 29)) ::
oo 31 (.faddr 0 (.t 30)) ::
oo 32 (.faddr 2 (.t 31)) ::
oo 33 (.faddr 1 (.t 32)) ::
oo 34 (.load1 (.t 33)) ::
oc 35 101 [(.t 26), z0, (.t 28), (.t 34)] :: [])) (.reg (
 om 36 3 ::
om 37 4 ::
oo 38 (.int .add z1 (.t 37)) ::
om 39 3 ::
oo 40 (.nilck (.t 39)) ::
oo 41 (.faddr 0 (.t 40)) ::
oo 42 (.faddr 2 (.t 41)) ::
oo 43 (.faddr 0 (.t 42)) ::
oo 44 (.load1 (.t 43)) ::
oo 45 (.neg (.t 44)) ::
oc 46 101 [(.t 36), (.t 38), z0, (.t 45)] :: []))))) (.reg (
 oo 47 (.int .add (.t 23) z1) ::
om 23 47 :: [])))))))) (.seq (.seq (.reg (
 om 48 3 ::
oo 49 (.nilck (.t 48)) ::
oo 50 (.faddr 0 (.t 49)) ::
oo 51 (.faddr 4 (.t 50)) ::
oo 52 (.load1 (.t 51)) ::
oo 53 (.len (.t 52)) ::
oo 54 (.mv z0) :: [])) (.block 2 (.loop (.seq (.reg (
 oo 55 (.int .lss (.t 54) (.t 53)) :: [])) (.seq (.cond (.t 55) .skip (.exit 2)) (.seq (.block 3 (.seq (.reg (
 oo 56 (.ixsl 4 (.t 52) (.t 54)) ::
oo 57 (.loadn 4 (.t 56)) ::
oo 6 (.alloc [k0, k0, k0, k0] 33) ::
oz (.store 4 (.t 6) (.t 57)) :: [])) (.seq (.dreg (
 oo 58 (.faddr 0 (.t 6)) ::
oo 59 (.load1 (.t 58)) ::
oo 60 (.int .add z1 (.t 59)) ::
oo 61 (.faddr 0 (.t 1)) ::
oo 62 (.load1 (.t 61)) ::
oo 63 (.int .add z1 (.t 62)) ::
oo 64 (.faddr 1 (.t 6)) ::
oo 65 (.load1 (.t 64)) ::
oo 66 (.int .add (.t 63) (.t 65)) ::
om 7 60 ::
om 8 66 :: []) []) (.seq (.reg (
 om 67 3 ::
om 68 8 ::
om 69 7 ::
oo 70 (.faddr 2 (.t 6)) ::
oo 71 (.faddr 1 (.t 70)) ::
oo 72 (.load1 (.t 71)) ::
oc 73 101 [(.t 67), (.t 68), (.t 69), (.t 72)] :: [])) (.reg (
 om 74 3 ::
om 75 7 ::
om 76 8 ::
oo 77 (.faddr 2 (.t 6)) ::
oo 78 (.faddr 0 (.t 77)) ::
oo 79 (.load1 (.t 78)) ::
oo 80 (.neg (.t 79)) ::
oc 81 101 [(.t 74), (.t 75), (.t 76), (.t 80)] :: [])))))) (.reg (
 oo 82 (.int .add (.t 54) z1) ::
om 54 82 :: [])))))))) (.seq (.reg (
 om 83 3 ::
om 2 83 :: [])) .ret)))))
def r39 : List ResultVar := [.tmp 2]
theorem fun39 : Fun Tryz.prog 39 84 1 a39 r39 :=
  ⟨rfl, Tryz.f39, _, rfl, rfl, rfl, by decide, rfl, rfl, rfl⟩
noncomputable def a40 : ACode := (.seq (.reg (
 oo 2 (.mv (.c (Value.pointer none))) ::
oo 3 (.mv (.c (Value.bool false))) :: [])) (.seq (.reg (
 om 4 0 ::
oc 5 102 [(.t 4), z0] ::
oo 6 (.extract (.t 5) 0) ::
oo 7 (.extract (.t 5) 1) ::
om 2 6 ::
om 3 7 :: [])) .ret))
def r40 : List ResultVar := [.tmp 2, .tmp 3]
theorem fun40 : Fun Tryz.prog 40 8 1 a40 r40 :=
  ⟨rfl, Tryz.f40, _, rfl, rfl, rfl, by decide, rfl, rfl, rfl⟩
noncomputable def a41 : ACode := (.seq (.reg (
 oo 4 (.alloc [Value.slice none 0 0, Value.slice none 0 0] 39) :: [])) (.seq (.reg (
 om 10 0 ::
oo 11 (.nilck (.t 10)) ::
oo 12 (.faddr 0 (.t 11)) ::
oo 13 (.load1 (.t 12)) ::
oo 14 (.nilck (.t 13)) ::
oo 15 (.faddr 5 (.t 14)) ::
oo 16 (.load1 (.t 15)) ::
oo 17 (.mkslice [k0] 8 2 (.t 16) (.t 16)) ::
om 5 17 :: [])) (.seq (.seq (.reg (
 om 18 5 ::
oo 19 (.len (.t 18)) ::
oo 20 (.mv z0) :: [])) (.block 0 (.loop (.seq (.reg (
 oo 21 (.int .lss (.t 20) (.t 19)) :: [])) (.seq (.cond (.t 21) .skip (.exit 0)) (.seq (.block 1 (.seq (.reg (
 om 22 20 ::
om 6 22 :: [])) (.reg (
 om 23 5 ::
om 24 6 ::
om 25 1 ::
om 26 0 ::
om 27 6 ::
oc 28 103 [(.t 26), (.t 27)] ::
oo 29 (.int .mul (.t 25) (.t 28)) ::
oo 30 (.ixsl 1 (.t 23) (.t 24)) ::
oz (.store 1 (.t 30) (.t 29)) :: [])))) (.reg (
 oo 31 (.int .add (.t 20) z1) ::
om 20 31 :: [])))))))) (.seq (.reg (
 om 32 0 ::
oo 33 (.nilck (.t 32)) ::
oo 34 (.faddr 0 (.t 33)) ::
oo 35 (.load1 (.t 34)) ::
oo 36 (.nilck (.t 35)) ::
oo 37 (.faddr 0 (.t 36)) ::
oo 38 (.faddr 0 (.t 37)) ::
oo 39 (.load1 (.t 38)) ::
oo 40 (.mkslice [k0] 8 2 (.t 39) (.t 39)) ::
oo 41 (.build [Value.slice none 0 0, Value.slice none 0 0] [(0, 1, (.t 40))]) ::
oo 7 (.alloc [Value.slice none 0 0, Value.slice none 0 0] 39) ::
oz (.store 2 (.t 7) (.t 41)) :: [])) (.seq (.dreg (
 oo 42 (.faddr 0 (.t 7)) ::
oo 43 (.load1 (.t 42)) ::
om 44 5 ::
oo 45 (.slsl 1 (.t 44) (some z1) none none) ::
oo 46 (.copy 1 (.t 43) (.t 45)) :: []) []) (.seq (.seq (.reg (
 om 47 5 ::
om 48 0 ::
oo 49 (.nilck (.t 48)) ::
oo 50 (.faddr 0 (.t 49)) ::
oo 51 (.load1 (.t 50)) ::
oo 52 (.nilck (.t 51)) ::
oo 53 (.faddr 0 (.t 52)) ::
oo 54 (.faddr 0 (.t 53)) ::
oo 55 (.load1 (.t 54)) ::
oo 56 (.int .add z1 (.t 55)) ::
oo 57 (.slsl 1 (.t 47) (some (.t 56)) none none) ::
oo 58 (.len (.t 57)) ::
oo 59 (.mv z0) :: [])) (.block 2 (.loop (.seq (.reg (
 oo 60 (.int .lss (.t 59) (.t 58)) :: [])) (.seq (.cond (.t 60) .skip (.exit 2)) (.seq (.block 3 (.seq (.reg (
 oo 61 (.ixsl 1 (.t 57) (.t 59)) ::
oo 62 (.load1 (.t 61)) ::
om 9 62 :: [])) (.reg (
 oo 63 (.faddr 1 (.t 7)) ::
oo 64 (.load1 (.t 63)) ::
om 65 9 ::
oo 66 (.neg (.t 65)) ::
oo 67 (.bslice [k0] [(0, 1, (.t 66))] 1 2) ::
oo 68 (.append 2 1 8 (.t 64) (.t 67)) ::
oo 69 (.faddr 1 (.t 7)) ::
oz (.store 1 (.t 69) (.t 68)) :: [])))) (.reg (
 oo 70 (.int .add (.t 59) z1) ::
om 59 70 :: [])))))))) (.seq (.reg (
 oo 71 (.loadn 2 (.t 7)) ::
oz (.store 2 (.t 4) (.t 71)) :: [])) .ret)))))))
def r41 : List ResultVar := [.cell 4 39]
theorem fun41 : Fun Tryz.prog 41 72 2 a41 r41 :=
  ⟨rfl, Tryz.f41, _, rfl, rfl, rfl, by decide, rfl, rfl, rfl⟩
noncomputable def a55 : ACode := (.seq (.reg (
 oo 2 (.box (.t 0) 31) ::
oo 4 (.mv (.c (Value.pointer none))) ::
oo 5 (.mv (.c (Value.pointer none))) ::
oo 6 (.mv z0) :: [])) (.seq (.seq (.reg (
 oo 15 (.loadn 5 (.t 2)) ::
oc 16 38 [(.t 15)] ::
om 7 16 :: [])) (.seq (.reg (
 om 17 7 ::
oo 18 (.int .neq (.t 17) z0) :: [])) (.cond (.t 18) (.seq (.reg (
 om 19 7 ::
oo 4 (.mv (.c (Value.pointer none))) ::
oo 5 (.mv (.c (Value.pointer none))) ::
om 6 19 :: [])) .ret) .skip))) (.seq (.seq (.reg (
 om 20 1 ::
oo 21 (.len (.t 20)) ::
oo 22 (.mv z0) :: [])) (.block 0 (.loop (.seq (.reg (
 oo 23 (.int .lss (.t 22) (.t 21)) :: [])) (.seq (.cond (.t 23) .skip (.exit 0)) (.seq (.block 1 (.seq (.reg (
 oo 24 (.ixsl 1 (.t 20) (.t 22)) ::
oo 25 (.load1 (.t 24)) ::
om 9 25 :: [])) (.seq (.reg (
 om 26 9 ::
oo 27 (.int .lss (.t 26) z0) ::
om 28 27 ::
og 29 28 false (.mv (.t 9)) ::
og 30 28 false (.faddr 1 (.t 2)) ::
og 31 28 false (.load1 (.t 30)) ::
og 32 28 false (.int .geq (.t 29) (.t 31)) ::
oo 33 (.pick (.t 28) (.c (Value.bool true)) (.t 32)) :: [])) (.cond (.t 33) (.seq (.reg (
 oo 4 (.mv (.c (Value.pointer none))) ::
oo 5 (.mv (.c (Value.pointer none))) ::
oo 6 (.mv (.c (Value.int .i64 3))) :: [])) .ret) .skip)))) (.reg (
 oo 34 (.int .add (.t 22) z1) ::
om 22 34 :: [])))))))) (.seq (.reg (
 oo 35 (.loadn 5 (.t 2)) ::
oc 36 39 [(.t 35)] ::
om 10 36 :: [])) (.seq (.reg (
 om 38 10 ::
oc 39 40 [(.t 38)] ::
om 37 39 ::
oo 40 (.extract (.t 37) 0) ::
oo 41 (.extract (.t 37) 1) ::
om 11 40 ::
om 12 41 :: [])) (.seq (.seq (.reg (
 om 42 12 ::
oo 43 (.not (.t 42)) :: [])) (.cond (.t 43) (.seq (.reg (
 oo 4 (.mv (.c (Value.pointer none))) ::
oo 5 (.mv (.c (Value.pointer none))) ::
oo 6 (.mv (.c (Value.int .i64 20))) :: [])) .ret) .skip)) (.seq (.seq (.reg (
 om 44 1 ::
oo 45 (.len (.t 44)) ::
oo 46 (.mv z0) :: [])) (.block 2 (.loop (.seq (.reg (
 oo 47 (.int .lss (.t 46) (.t 45)) :: [])) (.seq (.cond (.t 47) .skip (.exit 2)) (.seq (.block 3 (.seq (.reg (
 oo 48 (.ixsl 1 (.t 44) (.t 46)) ::
oo 49 (.load1 (.t 48)) ::
oo 14 (.alloc [k0] 3) ::
oz (.store 1 (.t 14) (.t 49)) :: [])) (.seq (.reg (
 oo 50 (.faddr 4 (.t 2)) ::
oo 51 (.load1 (.t 50)) ::
oo 52 (.mkfn (Fn.func 120) [] [(.t 14)]) ::
oc 53 98 [(.t 51), (.t 52)] ::
oo 54 (.not (.t 53)) :: [])) (.cond (.t 54) (.seq (.reg (
 oo 4 (.mv (.c (Value.pointer none))) ::
oo 5 (.mv (.c (Value.pointer none))) ::
oo 6 (.mv (.c (Value.int .i64 5))) :: [])) .ret) .skip)))) (.reg (
 oo 55 (.int .add (.t 46) z1) ::
om 46 55 :: [])))))))) (.seq (.reg (
 om 56 10 ::
om 57 11 ::
om 4 56 ::
om 5 57 ::
oo 6 (.mv z0) :: [])) .ret))))))))
def r55 : List ResultVar := [.tmp 4, .tmp 5, .tmp 6]
theorem fun55 : Fun Tryz.prog 55 58 2 a55 r55 :=
  ⟨rfl, Tryz.f55, _, rfl, rfl, rfl, by decide, rfl, rfl, rfl⟩
noncomputable def a56 : ACode := (.seq (.reg (
 oo 2 (.mv (.c (Value.pointer none))) :: [])) (.seq (.dreg (
 om 6 0 ::
oo 7 (.nilck (.t 6)) ::
oo 8 (.faddr 0 (.t 7)) ::
oo 9 (.loadn 5 (.t 8)) ::
om 10 0 ::
oo 11 (.nilck (.t 10)) ::
oo 12 (.faddr 5 (.t 11)) ::
oo 13 (.load1 (.t 12)) ::
oo 14 (.build [k0, k0, k0, k0, Value.slice none 0 0, k0, Value.bool false, k0, Value.bool false, k0, Value.bool false, k0, Value.bool false, k0, Value.bool false, k0, Value.bool false, k0, Value.bool false, k0, Value.bool false, k0, Value.bool false, k0, Value.bool false, k0, Value.bool false, k0, Value.bool false, k0, Value.bool false, k0, Value.bool false, k0, Value.bool false, k0, Value.bool false, k0, Value.bool false, k0, Value.bool false, k0, Value.bool false, k0, Value.bool false, k0, Value.bool false, k0, Value.bool false, k0, Value.bool false, k0, Value.bool false, k0, Value.bool false, k0, Value.bool false, k0, Value.bool false, k0, Value.bool false, k0, Value.bool false, k0, Value.bool false, k0, Value.bool false, k0, Value.bool false, k0, Value.bool false, k0, Value.bool false, k0, Value.bool false, k0, Value.bool false, k0, Value.bool false, k0, Value.bool false, k0, Value.bool false, k0, Value.bool false, k0, Value.bool false, k0, Value.bool false, k0, Value.bool false, k0, Value.bool false, k0, Value.bool false, k0, Value.bool false, k0, Value.bool false, k0, Value.bool false, k0, Value.bool false, k0, Value.bool false, k0, Value.bool false, k0, Value.bool false, k0, Value.bool false, k0, Value.bool false, k0, Value.bool false, k0, Value.bool false, k0, Value.bool false, k0, Value.bool false, k0, Value.bool false, k0, Value.bool false, k0, Value.bool false, k0, Value.bool false, k0, Value.bool false, k0, Value.bool false, k0, Value.bool false, k0, Value.bool false, k0, Value.bool false, k0, Value.bool false, k0, Value.bool false, k0, Value.bool false, k0, Value.bool false, k0, Value.bool false, k0, Value.bool false, k0, Value.bool false, k0, Value.bool false, k0, Value.bool false, k0, Value.bool false, k0, Value.bool false, k0, Value.bool false, k0, Value.bool false, k0, Value.bool false, k0, Value.bool false, k0, Value.bool false, k0, Value.bool false, k0, Value.bool false, k0, Value.bool false, k0, Value.bool false, k0, Value.bool false, k0, Value.bool false, k0, Value.bool false, k0, Value.bool false, k0, Value.bool false, k0, Value.bool false, k0, Value.bool false, k0, Value.bool false, k0, Value.bool false, k0, Value.bool false, k0, Value.bool false, k0, Value.bool false, k0, Value.bool false, k0, Value.bool false, k0, Value.bool false, k0, Value.bool false, k0, Value.bool false, k0, Value.bool false, k0, Value.bool false, k0, Value.bool false, k0, Value.bool false, k0, Value.bool false, k0, Value.bool false, k0, Value.bool false, k0, Value.bool false, k0, Value.bool false, k0, Value.bool false, k0, Value.bool false, k0, Value.bool false, k0, Value.bool false, k0, Value.bool false, k0, Value.bool false, k0, Value.bool false, k0, Value.bool false, k0, Value.bool false, k0, Value.bool false, k0, Value.bool false, k0, Value.bool false, k0, Value.bool false, k0, Value.bool false, k0, Value.bool false, k0, Value.bool false, k0, Value.bool false, k0, Value.bool false, k0, Value.bool false, k0, Value.bool false, k0, Value.bool false, k0, Value.bool false, k0, Value.bool false, k0, Value.bool false, k0, Value.bool false, k0, Value.bool false, k0, Value.bool false, k0, Value.bool false, k0, Value.bool false, k0, Value.bool false, k0, Value.bool false, k0, Value.bool false, k0, Value.bool false, k0, Value.bool false, k0, Value.bool false, k0, Value.bool false, k0, Value.bool false, k0, Value.bool false, k0, Value.bool false, k0, Value.bool false, k0, Value.bool false, k0, Value.bool false, k0, Value.bool false, k0, Value.bool false, k0, Value.bool false, k0, Value.bool false, k0, Value.bool false, k0, Value.bool false, k0, Value.bool false, k0, Value.bool false, k0, Value.bool false, k0, Value.bool false, k0, Value.bool false, k0, Value.bool false, k0, Value.bool false, k0, Value.bool false, k0] [(0, 5, (.t 9)), (5, 1, (.t 13))]) ::
oo 15 (.box (.t 14) 187) ::
om 3 15 :: []) []) (.seq (.seq (.reg (
 om 16 0 ::
oo 17 (.nilck (.t 16)) ::
oo 18 (.faddr 5 (.t 17)) ::
oo 19 (.load1 (.t 18)) ::
oo 20 (.mv z0) :: [])) (.block 0 (.loop (.seq (.reg (
 oo 21 (.int .lss (.t 20) (.t 19)) :: [])) (.seq (.cond (.t 21) .skip (.exit 0)) (.seq (.block 1 (.seq (.reg (
 om 22 20 ::
om 4 22 :: [])) (.seq (.reg (
 om 23 0 ::
oo 24 (.nilck (.t 23)) ::
oo 25 (.faddr 5 (.t 24)) ::
oo 26 (.load1 (.t 25)) ::
oo 27 (.mv z0) :: [])) (.block 2 (.loop (.seq (.reg (
 oo 28 (.int .lss (.t 27) (.t 26)) :: [])) (.seq (.cond (.t 28) .skip (.exit 2)) (.seq (.block 3 (.seq (.reg (
 om 29 27 ::
om 5 29 :: [])) (.dreg (
 om 30 3 ::
om 31 5 ::
om 32 4 ::
om 33 0 ::
om 34 4 ::
om 35 5 ::
oo 36 (.nilck (.t 33)) ::
oo 37 (.faddr 6 (.t 36)) ::
oo 38 (.ixarr 13 26 (.t 37) (.t 34)) ::
oo 39 (.ixarr 13 2 (.t 38) (.t 35)) ::
oo 40 (.loadn 2 (.t 39)) ::
oo 41 (.nilck (.t 30)) ::
oo 42 (.faddr 6 (.t 41)) ::
oo 43 (.ixarr 13 26 (.t 42) (.t 31)) ::
oo 44 (.ixarr 13 2 (.t 43) (.t 32)) ::
oz (.store 2 (.t 44) (.t 40)) :: []) []))) (.reg (
 oo 45 (.int .add (.t 27) z1) ::
om 27 45 :: [])))))))))) (.reg (
 oo 46 (.int .add (.t 20) z1) ::
om 20 46 :: [])))))))) (.seq (.reg (
 om 47 3 ::
om 2 47 :: [])) .ret))))
def r56 : List ResultVar := [.tmp 2]
theorem fun56 : Fun Tryz.prog 56 48 1 a56 r56 :=
  ⟨rfl, Tryz.f56, _, rfl, rfl, rfl, by decide, rfl, rfl, rfl⟩
noncomputable def a59 : ACode := (.seq (.reg (
 oo 6 (.mv (.c (Value.bool false))) :: [])) (.seq (.reg (
 om 7 0 ::
om 8 1 ::
oo 9 (.int .geq (.t 7) (.t 8)) ::
om 10 9 ::
og 11 10 true (.mv (.t 0)) ::
og 12 10 true (.mv (.t 2)) ::
og 13 10 true (.int .leq (.t 11) (.t 12)) ::
oo 14 (.pick (.t 10) (.t 13) (.c (Value.bool false))) ::
om 6 14 :: [])) .ret))
def r59 : List ResultVar := [.tmp 6]
theorem fun59 : Fun Tryz.prog 59 15 3 a59 r59 :=
  ⟨rfl, Tryz.f59, _, rfl, rfl, rfl, by decide, rfl, rfl, rfl⟩
noncomputable def a60 : ACode := (.seq (.reg (
 oo 3 (.box (.t 0) 23) ::
oo 6 (.mv (.c (Value.bool false))) :: [])) (.seq (.reg (
 oo 7 (.faddr 0 (.t 3)) ::
oo 8 (.load1 (.t 7)) ::
om 9 1 ::
oo 10 (.int .geq (.t 8) (.t 9)) ::
om 11 10 ::
og 12 11 true (.faddr 0 (.t 3)) ::
og 13 11 true (.load1 (.t 12)) ::
og 14 11 true (.faddr 1 (.t 3)) ::
og 15 11 true (.load1 (.t 14)) ::
og 16 11 true (.int .leq (.t 13) (.t 15)) ::
oo 17 (.pick (.t 11) (.t 16) (.c (Value.bool false))) ::
om 18 17 ::
og 19 18 true (.faddr 1 (.t 3)) ::
og 20 18 true (.load1 (.t 19)) ::
og 21 18 true (.mv (.t 2)) ::
og 22 18 true (.int .leq (.t 20) (.t 21)) ::
oo 23 (.pick (.t 18) (.t 22) (.c (Value.bool false))) ::
om 6 23 :: [])) .ret))
def r60 : List ResultVar := [.tmp 6]
theorem fun60 : Fun Tryz.prog 60 24 3 a60 r60 :=
  ⟨rfl, Tryz.f60, _, rfl, rfl, rfl, by decide, rfl, rfl, rfl⟩
noncomputable def a61 : ACode := (.seq (.reg (
 oo 2 (.box (.t 0) 67) ::
oo 4 (.alloc [k0, k0, k0, k0, k0, k0, k0, k0, k0, k0, k0, k0, k0, k0, k0, k0] 135) ::
oo 5 (.mv z0) :: [])) (.seq (.reg (
 oo 9 (.loadn 16 (.t 2)) ::
oo 10 (.build [k0, k0, k0, k0, k0, k0, k0, k0, k0, k0, k0, k0, k0, k0, k0, k0] [(0, 16, (.t 9))]) ::
oo 6 (.alloc [k0, k0, k0, k0, k0, k0, k0, k0, k0, k0, k0, k0, k0, k0, k0, k0] 135) ::
oz (.store 16 (.t 6) (.t 10)) :: [])) (.seq (.seq (.reg (
 oo 11 (.loadn 16 (.t 2)) ::
oc 12 123 [(.t 11)] ::
om 7 12 :: [])) (.seq (.reg (
 om 13 7 ::
oo 14 (.int .neq (.t 13) z0) :: [])) (.cond (.t 14) (.seq (.reg (
 oo 15 (.loadn 16 (.t 6)) ::
om 16 7 ::
oz (.store 16 (.t 4) (.t 15)) ::
om 5 16 :: [])) .ret) .skip))) (.seq (.seq (.reg (
 om 17 1 ::
oc 18 124 [(.t 17)] ::
om 8 18 :: [])) (.seq (.reg (
 om 19 8 ::
oo 20 (.int .neq (.t 19) z0) :: [])) (.cond (.t 20) (.seq (.reg (
 oo 21 (.loadn 16 (.t 6)) ::
om 22 8 ::
oz (.store 16 (.t 4) (.t 21)) ::
om 5 22 :: [])) .ret) .skip))) (.seq (.seq (.reg (
 om 23 1 ::
oo 24 (.mkfn (Fn.func 126) [] [(.t 6)]) ::
oc 25 125 [(.t 23), (.t 24)] :: [])) (.cond (.t 25) (.seq (.reg (
 oo 26 (.loadn 16 (.t 6)) ::
oz (.store 16 (.t 4) (.t 26)) ::
oo 5 (.mv (.c (Value.int .i64 19))) :: [])) .ret) .skip)) (.seq (.reg (
 oo 27 (.loadn 16 (.t 6)) ::
oz (.store 16 (.t 4) (.t 27)) ::
oo 5 (.mv z0) :: [])) .ret))))))
def r61 : List ResultVar := [.cell 4 135, .tmp 5]
theorem fun61 : Fun Tryz.prog 61 28 2 a61 r61 :=
  ⟨rfl, Tryz.f61, _, rfl, rfl, rfl, by decide, rfl, rfl, rfl⟩
noncomputable def a62 : ACode := (.seq (.reg (
 oo 3 (.box (.t 0) 135) ::
oo 6 (.alloc [k0, k0, k0, k0, k0, k0, k0, k0] 141) :: [])) (.seq (.reg (
 oo 14 (.faddr 0 (.t 3)) ::
oo 15 (.faddr 4 (.t 14)) ::
oo 16 (.faddr 0 (.t 15)) ::
oo 17 (.load1 (.t 16)) ::
oo 18 (.faddr 0 (.t 3)) ::
oo 19 (.faddr 6 (.t 18)) ::
oo 20 (.faddr 1 (.t 19)) ::
oo 21 (.load1 (.t 20)) ::
oo 22 (.faddr 0 (.t 3)) ::
oo 23 (.faddr 8 (.t 22)) ::
oo 24 (.faddr 0 (.t 23)) ::
oo 25 (.load1 (.t 24)) ::
oo 26 (.faddr 0 (.t 3)) ::
oo 27 (.faddr 12 (.t 26)) ::
oo 28 (.faddr 1 (.t 27)) ::
oo 29 (.load1 (.t 28)) ::
oo 30 (.faddr 0 (.t 3)) ::
oo 31 (.faddr 14 (.t 30)) ::
oo 32 (.faddr 0 (.t 31)) ::
oo 33 (.load1 (.t 32)) ::
oo 34 (.build [k0, k0, k0, k0, k0, k0] [(0, 1, (.t 17)), (1, 1, (.t 21)), (2, 1, (.t 25)), (4, 1, (.t 29)), (5, 1, (.t 33))]) ::
oo 35 (.faddr 0 (.t 3)) ::
oo 36 (.faddr 4 (.t 35)) ::
oo 37 (.faddr 1 (.t 36)) ::
oo 38 (.load1 (.t 37)) ::
oo 39 (.faddr 0 (.t 3)) ::
oo 40 (.faddr 6 (.t 39)) ::
oo 41 (.faddr 0 (.t 40)) ::
oo 42 (.load1 (.t 41)) ::
oo 43 (.faddr 0 (.t 3)) ::
oo 44 (.faddr 8 (.t 43)) ::
oo 45 (.faddr 1 (.t 44)) ::
oo 46 (.load1 (.t 45)) ::
oo 47 (.faddr 0 (.t 3)) ::
oo 48 (.faddr 12 (.t 47)) ::
oo 49 (.faddr 0 (.t 48)) ::
oo 50 (.load1 (.t 49)) ::
oo 51 (.faddr 0 (.t 3)) ::
oo 52 (.faddr 14 (.t 51)) ::
oo 53 (.faddr 1 (.t 52)) ::
oo 54 (.load1 (.t 53)) ::
oo 55 (.build [k0, k0, k0, k0, k0, k0] [(0, 1, (.t 38)), (1, 1, (.t 42)), (2, 1, (.t 46)), (4, 1, (.t 50)), (5, 1, (.t 54))]) ::
oo 56 (.build [k0, k0, k0, k0, k0, k0, k0, k0, k0, k0, k0, k0] [(0, 6, (.t 34)), (6, 6, (.t 55))]) ::
oo 7 (.alloc [k0, k0, k0, k0, k0, k0, k0, k0, k0, k0, k0, k0] 224) ::
oz (.store 12 (.t 7) (.t 56)) :: [])) (.seq (.reg (
 om 57 2 ::
oo 58 (.int .add (.t 57) z1) ::
oo 59 (.idiv true (.t 58) (.c (Value.int .i64 2))) ::
oo 60 (.ixarr 2 6 (.t 7) (.t 59)) ::
oo 61 (.loadn 6 (.t 60)) ::
oo 8 (.alloc [k0, k0, k0, k0, k0, k0] 139) ::
oz (.store 6 (.t 8) (.t 61)) :: [])) (.seq (.reg (
 oo 62 (.build [k0, k0, k0, k0, k0, k0, k0, k0] [(0, 1, (.c (Value.int .i64 (-1))))]) ::
oo 9 (.alloc [k0, k0, k0, k0, k0, k0, k0, k0] 141) ::
oz (.store 8 (.t 9) (.t 62)) :: [])) (.seq (.reg (
 oo 63 (.loadn 8 (.t 9)) ::
oo 10 (.alloc [k0, k0, k0, k0, k0, k0, k0, k0] 141) ::
oz (.store 8 (.t 10) (.t 63)) :: [])) (.seq (.seq (.reg (
 om 64 1 ::
oo 65 (.len (.t 64)) ::
oo 66 (.mv z0) :: [])) (.block 0 (.loop (.seq (.reg (
 oo 67 (.int .lss (.t 66) (.t 65)) :: [])) (.seq (.cond (.t 67) .skip (.exit 0)) (.seq (.block 1 (.seq (.reg (
 om 68 66 ::
oo 69 (.ixsl 2 (.t 64) (.t 66)) ::
oo 70 (.loadn 2 (.t 69)) ::
oo 12 (.alloc [Value.slice none 0 0, Value.slice none 0 0] 71) ::
om 11 68 ::
oz (.store 2 (.t 12) (.t 70)) :: [])) (.seq (.reg (
 oo 71 (.faddr 0 (.t 3)) ::
oo 72 (.faddr 10 (.t 71)) ::
oo 73 (.faddr 0 (.t 72)) ::
oo 74 (.load1 (.t 73)) ::
oo 75 (.faddr 3 (.t 8)) ::
oz (.store 1 (.t 75) (.t 74)) :: [])) (.block 2 (.loop (.seq (.seq (.reg (
 oo 76 (.faddr 3 (.t 8)) ::
oo 77 (.load1 (.t 76)) ::
oo 78 (.faddr 0 (.t 3)) ::
oo 79 (.faddr 10 (.t 78)) ::
oo 80 (.faddr 1 (.t 79)) ::
oo 81 (.load1 (.t 80)) ::
oo 82 (.int .leq (.t 77) (.t 81)) :: [])) (.cond (.t 82) .skip (.exit 2))) (.seq (.block 3 (.seq (.reg (
 oo 87 (.loadn 16 (.t 3)) ::
oo 88 (.loadn 2 (.t 12)) ::
oo 89 (.build [Value.slice none 0 0, Value.slice none 0 0] [(0, 2, (.t 88))]) ::
oo 90 (.loadn 6 (.t 8)) ::
oc 91 128 [(.t 87), (.t 89), (.t 90)] ::
om 13 91 :: [])) (.seq (.reg (
 oo 92 (.loadn 8 (.t 10)) ::
oo 93 (.loadn 8 (.t 9)) ::
oo 94 (.pure (rawOp Tryz.f62 12 2)) ::
om 95 94 ::
og 96 95 false (.mv (.t 2)) ::
og 97 95 false (.mv (.t 13)) ::
og 98 95 false (.int .mul (.t 96) (.t 97)) ::
og 99 95 false (.mv (.t 2)) ::
og 100 95 false (.faddr 7 (.t 10)) ::
og 101 95 false (.load1 (.t 100)) ::
og 102 95 false (.int .mul (.t 99) (.t 101)) ::
og 103 95 false (.int .gtr (.t 98) (.t 102)) ::
oo 104 (.pick (.t 95) (.c (Value.bool true)) (.t 103)) :: [])) (.cond (.t 104) (.reg (
 om 105 11 ::
oo 106 (.loadn 6 (.t 8)) ::
om 107 13 ::
oo 108 (.build [k0, k0, k0, k0, k0, k0, k0, k0] [(0, 1, (.t 105)), (1, 6, (.t 106)), (7, 1, (.t 107))]) ::
oz (.store 8 (.t 10) (.t 108)) :: [])) .skip)))) (.reg (
 oo 83 (.faddr 3 (.t 8)) ::
oo 84 (.load1 (.t 83)) ::
oo 85 (.int .add (.t 84) z1) ::
oo 86 (.faddr 3 (.t 8)) ::
oz (.store 1 (.t 86) (.t 85)) :: []))))))))) (.reg (
 oo 109 (.int .add (.t 66) z1) ::
om 66 109 :: [])))))))) (.seq (.reg (
 oo 110 (.loadn 8 (.t 10)) ::
oz (.store 8 (.t 6) (.t 110)) :: [])) .ret)))))))
def r62 : List ResultVar := [.cell 6 141]
theorem fun62 : Fun Tryz.prog 62 111 3 a62 r62 :=
  ⟨rfl, Tryz.f62, _, rfl, rfl, rfl, by decide, rfl, rfl, rfl⟩
noncomputable def a74 : ACode := (.seq (.reg (
 oo 2 (.box (.t 0) 2) ::
oo 4 (.mv (.c (Value.bool false))) :: [])) (.seq (.reg (
 om 5 1 ::
oo 6 (.mkfn (Fn.func 145) [] [(.t 2)]) ::
oc 7 118 [(.t 5), (.t 6)] ::
oo 8 (.not (.t 7)) ::
om 4 8 :: [])) .ret))
def r74 : List ResultVar := [.tmp 4]
theorem fun74 : Fun Tryz.prog 74 9 2 a74 r74 :=
  ⟨rfl, Tryz.f74, _, rfl, rfl, rfl, by decide, rfl, rfl, rfl⟩
noncomputable def a76 : ACode := (.seq (.reg (
 oo 0 (.mv (.c (Value.bool false))) :: [])) (.seq (.reg (
 oc 1 146 [] ::
om 2 1 ::
ocg 3 2 true 147 [] ::
oo 4 (.pick (.t 2) (.t 3) (.c (Value.bool false))) ::
om 5 4 ::
ocg 6 5 true 148 [] ::
oo 7 (.pick (.t 5) (.t 6) (.c (Value.bool false))) ::
om 0 7 :: [])) .ret))
def r76 : List ResultVar := [.tmp 0]
theorem fun76 : Fun Tryz.prog 76 8 0 a76 r76 :=
  ⟨rfl, Tryz.f76, _, rfl, rfl, rfl, by decide, rfl, rfl, rfl⟩
noncomputable def a96 : ACode := (.seq (.reg (
 oo 4 (.mv (.c (Value.bool false))) :: [])) (.seq (.reg (
 om 5 0 ::
oo 6 (.int .geq (.t 5) z0) ::
om 7 6 ::
og 8 7 true (.mv (.t 0)) ::
og 9 7 true (.mv (.t 1)) ::
og 10 7 true (.int .lss (.t 8) (.t 9)) ::
oo 11 (.pick (.t 7) (.t 10) (.c (Value.bool false))) ::
om 4 11 :: [])) .ret))
def r96 : List ResultVar := [.tmp 4]
theorem fun96 : Fun Tryz.prog 96 12 2 a96 r96 :=
  ⟨rfl, Tryz.f96, _, rfl, rfl, rfl, by decide, rfl, rfl, rfl⟩
noncomputable def a97 : ACode := (.seq (.reg (
 oo 1 (.box (.t 0) 23) ::
oo 2 (.mv (.c (Value.bool false))) :: [])) (.seq (.reg (
 oo 3 (.faddr 0 (.t 1)) ::
oo 4 (.load1 (.t 3)) ::
oo 5 (.faddr 1 (.t 1)) ::
oo 6 (.load1 (.t 5)) ::
oo 7 (.int .leq (.t 4) (.t 6)) ::
om 8 7 ::
og 9 8 true (.faddr 0 (.t 1)) ::
og 10 8 true (.load1 (.t 9)) ::
og 11 8 true (.faddr 1 (.t 1)) ::
og 12 8 true (.load1 (.t 11)) ::
og 13 8 true (.bslice [k0, k0] [(0, 1, (.t 10)), (1, 1, (.t 12))] 2 2) ::
ocg 14 8 true 74 [(.c (Value.int .i64 1000000)), (.t 13)] ::
oo 15 (.pick (.t 8) (.t 14) (.c (Value.bool false))) ::
om 2 15 :: [])) .ret))
def r97 : List ResultVar := [.tmp 2]
theorem fun97 : Fun Tryz.prog 97 16 1 a97 r97 :=
  ⟨rfl, Tryz.f97, _, rfl, rfl, rfl, by decide, rfl, rfl, rfl⟩
noncomputable def a98 : ACode := (.seq (.reg (
 oo 4 (.mv (.c (Value.bool false))) :: [])) (.seq (.reg (
 om 5 0 ::
om 6 1 ::
oc 7 188 [(.t 5), (.t 6)] ::
oo 8 (.int .geq (.t 7) z0) ::
om 4 8 :: [])) .ret))
def r98 : List ResultVar := [.tmp 4]
theorem fun98 : Fun Tryz.prog 98 9 2 a98 r98 :=
  ⟨rfl, Tryz.f98, _, rfl, rfl, rfl, by decide, rfl, rfl, rfl⟩
noncomputable def a99 : ACode := (.seq (.reg (
 oo 3 (.box (.t 0) 33) ::
oo 4 (.mv (.c (Value.bool false))) :: [])) (.seq (.reg (
 oo 5 (.load1 (.t 1)) ::
oo 6 (.faddr 0 (.t 3)) ::
oo 7 (.load1 (.t 6)) ::
oo 8 (.faddr 0 (.t 2)) ::
oo 9 (.load1 (.t 8)) ::
⟨(some 10), none, (.call (.t 5) [(.t 7), (.t 9)])⟩ ::
oo 11 (.not (.t 10)) ::
om 12 11 ::
og 13 12 false (.load1 (.t 1)) ::
og 14 12 false (.faddr 1 (.t 3)) ::
og 15 12 false (.load1 (.t 14)) ::
og 16 12 false (.faddr 1 (.t 2)) ::
og 17 12 false (.load1 (.t 16)) ::
⟨(some 18), (some (12, false)), (.call (.t 13) [(.t 15), (.t 17)])⟩ ::
og 19 12 false (.not (.t 18)) ::
oo 20 (.pick (.t 12) (.c (Value.bool true)) (.t 19)) ::
om 4 20 :: [])) .ret))
def r99 : List ResultVar := [.tmp 4]
theorem fun99 : Fun Tryz.prog 99 21 3 a99 r99 :=
  ⟨rfl, Tryz.f99, _, rfl, rfl, rfl, by decide, rfl, rfl, rfl⟩
noncomputable def a100 : ACode := (.seq (.reg (
 oo 1 (.box (.t 0) 33) ::
oo 2 (.mv (.c (Value.bool false))) :: [])) (.seq (.reg (
 oo 3 (.faddr 2 (.t 1)) ::
oo 4 (.loadn 2 (.t 3)) ::
oc 5 97 [(.t 4)] ::
oo 6 (.not (.t 5)) ::
om 2 6 :: [])) .ret))
def r100 : List ResultVar := [.tmp 2]
theorem fun100 : Fun Tryz.prog 100 7 1 a100 r100 :=
  ⟨rfl, Tryz.f100, _, rfl, rfl, rfl, by decide, rfl, rfl, rfl⟩
noncomputable def a101 : ACode := (.seq (.reg (
 om 9 0 ::
om 10 1 ::
om 11 2 ::
oo 12 (.nilck (.t 9)) ::
oo 13 (.faddr 6 (.t 12)) ::
oo 14 (.ixarr 13 26 (.t 13) (.t 10)) ::
oo 15 (.ixarr 13 2 (.t 14) (.t 11)) ::
oo 16 (.loadn 2 (.t 15)) ::
oo 8 (.alloc [Value.bool false, k0] 182) ::
oz (.store 2 (.t 8) (.t 16)) :: [])) (.dreg (
 om 17 0 ::
om 18 1 ::
om 19 2 ::
om 20 3 ::
oo 21 (.mkfn (Fn.func 190) [] [(.t 8)]) ::
oc 22 189 [(.t 20), (.t 21)] ::
oo 23 (.build [Value.bool false, k0] [(0, 1, (.c (Value.bool true))), (1, 1, (.t 22))]) ::
oo 24 (.nilck (.t 17)) ::
oo 25 (.faddr 6 (.t 24)) ::
oo 26 (.ixarr 13 26 (.t 25) (.t 18)) ::
oo 27 (.ixarr 13 2 (.t 26) (.t 19)) ::
oz (.store 2 (.t 27) (.t 23)) :: []) []))
def r101 : List ResultVar := []
theorem fun101 : Fun Tryz.prog 101 28 4 a101 r101 :=
  ⟨rfl, Tryz.f101, _, rfl, rfl, rfl, by decide, rfl, rfl, rfl⟩
noncomputable def a102A0 : ACode := (.reg (
 oo 7 (.alloc [k0, k0, k0] 305) ::
oz (.store 3 (.t 7) (.t 31)) :: []))
noncomputable def a102B0 : ACode := (.block 3 (.seq (.dreg (
 oo 32 (.load1 (.t 6)) ::
oo 33 (.faddr 0 (.t 7)) ::
oo 34 (.load1 (.t 33)) ::
oo 35 (.nilck (.t 32)) ::
oo 36 (.faddr 1 (.t 35)) ::
oo 37 (.ixarr 13 2 (.t 36) (.t 34)) ::
oo 38 (.loadn 2 (.t 37)) ::
oo 39 (.load1 (.t 6)) ::
oo 40 (.faddr 1 (.t 7)) ::
oo 41 (.load1 (.t 40)) ::
oo 42 (.nilck (.t 39)) ::
oo 43 (.faddr 1 (.t 42)) ::
oo 44 (.ixarr 13 2 (.t 43) (.t 41)) ::
oo 45 (.loadn 2 (.t 44)) ::
oo 8 (.alloc [Value.bool false, k0] 182) ::
oo 9 (.alloc [Value.bool false, k0] 182) ::
oz (.store 2 (.t 8) (.t 38)) ::
oz (.store 2 (.t 9) (.t 45)) :: []) [((.t 6), (.t 8)), ((.t 40), (.t 8)), ((.t 44), (.t 8))]) (.seq (.reg (
 oo 46 (.faddr 0 (.t 8)) ::
oo 47 (.load1 (.t 46)) ::
om 48 47 ::
og 49 48 true (.faddr 0 (.t 9)) ::
og 50 48 true (.load1 (.t 49)) ::
og 51 48 true (.not (.t 50)) ::
og 52 48 true (.mv (.t 51)) ::
og 53 52 false (.faddr 1 (.t 8)) ::
og 54 52 false (.load1 (.t 53)) ::
og 55 52 false (.faddr 2 (.t 7)) ::
og 56 52 false (.load1 (.t 55)) ::
og 57 52 false (.int .add (.t 54) (.t 56)) ::
og 58 52 false (.faddr 1 (.t 9)) ::
og 59 52 false (.load1 (.t 58)) ::
og 60 52 false (.int .lss (.t 57) (.t 59)) ::
og 61 48 true (.pick (.t 52) (.c (Value.bool true)) (.t 60)) ::
oo 62 (.pick (.t 48) (.t 61) (.c (Value.bool false))) :: [])) (.cond (.t 62) (.seq (.dreg (
 oo 63 (.load1 (.t 6)) ::
oo 64 (.faddr 1 (.t 7)) ::
oo 65 (.load1 (.t 64)) ::
oo 66 (.faddr 1 (.t 8)) ::
oo 67 (.load1 (.t 66)) ::
oo 68 (.faddr 2 (.t 7)) ::
oo 69 (.load1 (.t 68)) ::
oo 70 (.int .add (.t 67) (.t 69)) ::
oo 71 (.build [Value.bool false, k0] [(0, 1, (.c (Value.bool true))), (1, 1, (.t 70))]) ::
oo 72 (.nilck (.t 63)) ::
oo 73 (.faddr 1 (.t 72)) ::
oo 74 (.ixarr 13 2 (.t 73) (.t 65)) ::
oz (.store 2 (.t 74) (.t 71)) :: []) []) (.seq (.dreg (
 oo 75 (.load1 (.t 6)) ::
oo 76 (.nilck (.t 75)) ::
oo 77 (.faddr 27 (.t 76)) ::
oo 78 (.load1 (.t 77)) ::
oo 79 (.faddr 1 (.t 7)) ::
oo 80 (.load1 (.t 79)) ::
oo 81 (.faddr 0 (.t 7)) ::
oo 82 (.load1 (.t 81)) ::
oz (.mapup 3 (.t 78) (.t 80) (.t 82)) :: []) []) (.reg (
 oo 83 (.load1 (.t 6)) ::
oo 84 (.faddr 1 (.t 7)) ::
oo 85 (.load1 (.t 84)) ::
oo 86 (.nilck (.t 83)) ::
oo 87 (.faddr 28 (.t 86)) ::
oz (.store 1 (.t 87) (.t 85)) :: [])))) .skip))))
theorem c102A0 : cCode Tryz.prog 95 false (rfAt Tryz.f102 0).1 = some a102A0 := rfl
theorem c102B0 : cCode Tryz.prog 95 false (rfAt Tryz.f102 0).2 = some a102B0 := rfl
noncomputable def a102 : ACode := (.seq (.reg (
 oo 4 (.mv (.c (Value.pointer none))) ::
oo 5 (.mv (.c (Value.bool false))) :: [])) (.seq (.reg (
 om 10 0 ::
oo 11 (.mkmap) ::
oo 12 (.build [Value.pointer none, Value.bool false, k0, Value.bool false, k0, Value.bool false, k0, Value.bool false, k0, Value.bool false, k0, Value.bool false, k0, Value.bool false, k0, Value.bool false, k0, Value.bool false, k0, Value.bool false, k0, Value.bool false, k0, Value.bool false, k0, Value.bool false, k0, Value.map none, k0] [(0, 1, (.t 10)), (27, 1, (.t 11)), (28, 1, (.c (Value.int .i64 (-1))))]) ::
oo 13 (.box (.t 12) 192) ::
oo 6 (.alloc [Value.pointer none] 99) ::
oz (.store 1 (.t 6) (.t 13)) :: [])) (.seq (.reg (
 oo 14 (.load1 (.t 6)) ::
om 15 1 ::
oo 16 (.build [Value.bool false, k0] [(0, 1, (.c (Value.bool true))), (1, 1, z0)]) ::
oo 17 (.nilck (.t 14)) ::
oo 18 (.faddr 1 (.t 17)) ::
oo 19 (.ixarr 13 2 (.t 18) (.t 15)) ::
oz (.store 2 (.t 19) (.t 16)) :: [])) (.seq (.seq (.reg (
 om 20 0 ::
oo 21 (.nilck (.t 20)) ::
oo 22 (.faddr 5 (.t 21)) ::
oo 23 (.load1 (.t 22)) ::
oo 24 (.mv z0) :: [])) (.block 0 (.loop (.seq (.reg (
 oo 25 (.int .lss (.t 24) (.t 23)) :: [])) (.seq (.cond (.t 25) .skip (.exit 0)) (.seq (.block 1 (.seq (.reg (
 oo 26 (.load1 (.t 6)) ::
oo 27 (.nilck (.t 26)) ::
oo 28 (.faddr 28 (.t 27)) ::
oz (.store 1 (.t 28) (.c (Value.int .i64 (-1)))) :: [])) (.seq (.reg (
 om 29 0 ::
oc 30 191 [(.t 29)] :: [])) (.block 2 (.range (.t 30) [31] 95 (rfAt Tryz.f102 0).1 (rfAt Tryz.f102 0).2 a102A0 a102B0))))) (.reg (
 oo 88 (.int .add (.t 24) z1) ::
om 24 88 :: [])))))))) (.seq (.dreg (
 oo 89 (.load1 (.t 6)) ::
oo 90 (.load1 (.t 6)) ::
oo 91 (.nilck (.t 90)) ::
oo 92 (.faddr 28 (.t 91)) ::
oo 93 (.load1 (.t 92)) ::
oo 94 (.int .lss (.t 93) z0) ::
om 4 89 ::
om 5 94 :: []) []) .ret)))))
def r102 : List ResultVar := [.tmp 4, .tmp 5]
theorem fun102 : Fun Tryz.prog 102 95 2 a102 r102 :=
  ⟨rfl, Tryz.f102, _, rfl, rfl, rfl, by decide, rfl, rfl, rfl⟩
noncomputable def a103 : ACode := (.seq (.reg (
 oo 4 (.mv z0) :: [])) (.seq (.reg (
 om 5 0 ::
om 6 1 ::
oo 7 (.nilck (.t 5)) ::
oo 8 (.faddr 1 (.t 7)) ::
oo 9 (.ixarr 13 2 (.t 8) (.t 6)) ::
oo 10 (.faddr 1 (.t 9)) ::
oo 11 (.load1 (.t 10)) ::
om 4 11 :: [])) .ret))
def r103 : List ResultVar := [.tmp 4]
theorem fun103 : Fun Tryz.prog 103 12 2 a103 r103 :=
  ⟨rfl, Tryz.f103, _, rfl, rfl, rfl, by decide, rfl, rfl, rfl⟩
noncomputable def a106 : ACode := (.seq (.reg (
 oo 2 (.mv (.c (Value.map none))) :: [])) (.seq (.seq (.reg (
 om 3 0 ::
oo 4 (.cmp none false (.t 3) (.c (Value.map none)) (rawOp Tryz.f106 1 1)) :: [])) (.cond (.t 4) (.seq (.reg (
 oo 2 (.mv (.c (Value.map none))) :: [])) .ret) .skip)) (.seq (.reg (
 om 5 0 ::
oo 6 (.mkif 190 (.t 5)) ::
oc 7 195 [(.t 6)] ::
oo 8 (.tass 190 (Value.map none) false (.t 7)) ::
om 2 8 :: [])) .ret)))
def r106 : List ResultVar := [.tmp 2]
theorem fun106 : Fun Tryz.prog 106 9 1 a106 r106 :=
  ⟨rfl, Tryz.f106, _, rfl, rfl, rfl, by decide, rfl, rfl, rfl⟩
noncomputable def a118 : ACode := (.seq (.reg (
 oo 4 (.mv (.c (Value.bool false))) :: [])) (.seq (.reg (
 om 5 0 ::
om 6 1 ::
oc 7 205 [(.t 5), (.t 6)] ::
oo 8 (.int .geq (.t 7) z0) ::
om 4 8 :: [])) .ret))
def r118 : List ResultVar := [.tmp 4]
theorem fun118 : Fun Tryz.prog 118 9 2 a118 r118 :=
  ⟨rfl, Tryz.f118, _, rfl, rfl, rfl, by decide, rfl, rfl, rfl⟩
noncomputable def a120 : ACode := (.seq (.reg (
 oo 2 (.box (.t 0) 33) ::
oo 3 (.mv (.c (Value.bool false))) :: [])) (.seq (.reg (
 oo 4 (.faddr 1 (.t 2)) ::
oo 5 (.load1 (.t 4)) ::
oo 6 (.load1 (.t 1)) ::
oo 7 (.int .eql (.t 5) (.t 6)) ::
om 3 7 :: [])) .ret))
def r120 : List ResultVar := [.tmp 3]
theorem fun120 : Fun Tryz.prog 120 8 2 a120 r120 :=
  ⟨rfl, Tryz.f120, _, rfl, rfl, rfl, by decide, rfl, rfl, rfl⟩
noncomputable def a123 : ACode := (.seq (.reg (
 oo 1 (.box (.t 0) 67) ::
oo 2 (.mv z0) :: [])) (.seq (.seq (.dreg (
 oo 3 (.faddr 0 (.t 1)) ::
oo 4 (.load1 (.t 3)) ::
oc 5 211 [(.t 4), z1, (.c (Value.int .i64 10000))] ::
oo 6 (.faddr 1 (.t 1)) ::
oo 7 (.load1 (.t 6)) ::
oc 8 211 [(.t 7), z1, (.c (Value.int .i64 10000))] ::
oo 9 (.faddr 2 (.t 1)) ::
oo 10 (.load1 (.t 9)) ::
oc 11 211 [(.t 10), z1, (.c (Value.int .i64 1000000))] ::
oo 12 (.faddr 3 (.t 1)) ::
oo 13 (.load1 (.t 12)) ::
oc 14 211 [(.t 13), z1, (.c (Value.int .i64 10))] ::
oo 15 (.faddr 4 (.t 1)) ::
oo 16 (.loadn 2 (.t 15)) ::
oo 17 (.build [k0, k0, k0, k0] [(0, 2, (.t 16)), (2, 1, z0), (3, 1, (.c (Value.int .i64 100000000)))]) ::
oo 18 (.faddr 6 (.t 1)) ::
oo 19 (.loadn 2 (.t 18)) ::
oo 20 (.build [k0, k0, k0, k0] [(0, 2, (.t 19)), (2, 1, (.c (Value.int .i64 500))), (3, 1, (.c (Value.int .i64 3000)))]) ::
oo 21 (.faddr 8 (.t 1)) ::
oo 22 (.loadn 2 (.t 21)) ::
oo 23 (.build [k0, k0, k0, k0] [(0, 2, (.t 22)), (2, 1, (.c (Value.int .i64 500))), (3, 1, (.c (Value.int .i64 3000)))]) ::
oo 24 (.faddr 10 (.t 1)) ::
oo 25 (.loadn 2 (.t 24)) ::
oo 26 (.build [k0, k0, k0, k0] [(0, 2, (.t 25)), (2, 1, z0), (3, 1, (.c (Value.int .i64 1000)))]) ::
oo 27 (.faddr 12 (.t 1)) ::
oo 28 (.loadn 2 (.t 27)) ::
oo 29 (.build [k0, k0, k0, k0] [(0, 2, (.t 28)), (2, 1, z0), (3, 1, (.c (Value.int .i64 200)))]) ::
oo 30 (.faddr 14 (.t 1)) ::
oo 31 (.loadn 2 (.t 30)) ::
oo 32 (.build [k0, k0, k0, k0] [(0, 2, (.t 31)), (2, 1, z0), (3, 1, (.c (Value.int .i64 2000)))]) ::
oo 33 (.bslice [k0, k0, k0, k0, k0, k0, k0, k0, k0, k0, k0, k0, k0, k0, k0, k0, k0, k0, k0, k0, k0, k0, k0, k0, k0, k0, k0, k0, k0, k0, k0, k0, k0, k0, k0, k0, k0, k0, k0, k0] [(0, 4, (.t 5)), (4, 4, (.t 8)), (8, 4, (.t 11)), (12, 4, (.t 14)), (16, 4, (.t 17)), (20, 4, (.t 20)), (24, 4, (.t 23)), (28, 4, (.t 26)), (32, 4, (.t 29)), (36, 4, (.t 32))] 10 327) ::
oc 34 210 [(.t 33)] ::
oc 35 209 [(.t 34)] ::
oo 36 (.not (.t 35)) :: []) []) (.cond (.t 36) (.seq (.reg (
 oo 2 (.mv (.c (Value.int .i64 2))) :: [])) .ret) .skip)) (.seq (.reg (
 oo 2 (.mv z0) :: [])) .ret)))
def r123 : List ResultVar := [.tmp 2]
theorem fun123 : Fun Tryz.prog 123 37 1 a123 r123 :=
  ⟨rfl, Tryz.f123, _, rfl, rfl, rfl, by decide, rfl, rfl, rfl⟩
noncomputable def a124 : ACode := (.seq (.reg (
 oo 2 (.mv z0) :: [])) (.seq (.seq (.reg (
 om 6 0 ::
oo 7 (.len (.t 6)) ::
oo 8 (.int .eql (.t 7) z0) ::
om 9 8 ::
og 10 9 false (.mv (.t 0)) ::
og 11 9 false (.len (.t 10)) ::
og 12 9 false (.int .gtr (.t 11) (.c (Value.int .i64 4))) ::
oo 13 (.pick (.t 9) (.c (Value.bool true)) (.t 12)) :: [])) (.cond (.t 13) (.seq (.reg (
 oo 2 (.mv (.c (Value.int .i64 6))) :: [])) .ret) .skip)) (.seq (.seq (.reg (
 om 14 0 ::
oo 15 (.len (.t 14)) ::
oo 16 (.mv z0) :: [])) (.block 0 (.loop (.seq (.reg (
 oo 17 (.int .lss (.t 16) (.t 15)) :: [])) (.seq (.cond (.t 17) .skip (.exit 0)) (.seq (.block 1 (.seq (.reg (
 oo 18 (.ixsl 2 (.t 14) (.t 16)) ::
oo 19 (.loadn 2 (.t 18)) ::
oo 4 (.alloc [Value.slice none 0 0, Value.slice none 0 0] 71) ::
oz (.store 2 (.t 4) (.t 19)) :: [])) (.seq (.reg (
 oo 20 (.loadn 2 (.t 4)) ::
oc 21 212 [(.t 20)] ::
om 5 21 :: [])) (.seq (.reg (
 om 22 5 ::
oo 23 (.int .neq (.t 22) z0) :: [])) (.cond (.t 23) (.seq (.reg (
 om 24 5 ::
om 2 24 :: [])) .ret) .skip))))) (.reg (
 oo 25 (.int .add (.t 16) z1) ::
om 16 25 :: [])))))))) (.seq (.reg (
 oo 2 (.mv z0) :: [])) .ret))))
def r124 : List ResultVar := [.tmp 2]
theorem fun124 : Fun Tryz.prog 124 26 1 a124 r124 :=
  ⟨rfl, Tryz.f124, _, rfl, rfl, rfl, by decide, rfl, rfl, rfl⟩
noncomputable def a125 : ACode := (.seq (.reg (
 oo 4 (.mv (.c (Value.bool false))) :: [])) (.seq (.reg (
 om 5 0 ::
om 6 1 ::
oc 7 213 [(.t 5), (.t 6)] ::
oo 8 (.int .geq (.t 7) z0) ::
om 4 8 :: [])) .ret))
def r125 : List ResultVar := [.tmp 4]
theorem fun125 : Fun Tryz.prog 125 9 2 a125 r125 :=
  ⟨rfl, Tryz.f125, _, rfl, rfl, rfl, by decide, rfl, rfl, rfl⟩
noncomputable def a126 : ACode := (.seq (.reg (
 oo 2 (.box (.t 0) 71) ::
oo 3 (.mv (.c (Value.bool false))) :: [])) (.seq (.reg (
 oo 4 (.loadn 16 (.t 1)) ::
oo 5 (.loadn 2 (.t 2)) ::
oo 6 (.build [Value.slice none 0 0, Value.slice none 0 0] [(0, 2, (.t 5))]) ::
oc 7 127 [(.t 4), (.t 6)] ::
oo 8 (.not (.t 7)) ::
om 3 8 :: [])) .ret))
def r126 : List ResultVar := [.tmp 3]
theorem fun126 : Fun Tryz.prog 126 9 2 a126 r126 :=
  ⟨rfl, Tryz.f126, _, rfl, rfl, rfl, by decide, rfl, rfl, rfl⟩
noncomputable def a127 : ACode := (.seq (.reg (
 oo 2 (.box (.t 0) 135) ::
oo 3 (.box (.t 1) 222) ::
oo 4 (.mv (.c (Value.bool false))) :: [])) (.seq (.reg (
 oo 6 (.loadn 16 (.t 2)) ::
oc 7 214 [(.t 6)] ::
oo 5 (.alloc [k0, k0, k0, k0] 330) ::
oz (.store 4 (.t 5) (.t 7)) :: [])) (.seq (.reg (
 oo 8 (.loadn 2 (.t 3)) ::
oo 9 (.ixarr 2 2 (.t 5) z0) ::
oo 10 (.loadn 2 (.t 9)) ::
oc 11 215 [(.t 8), (.t 10)] ::
om 12 11 ::
og 13 12 true (.loadn 2 (.t 3)) ::
og 14 12 true (.ixarr 2 2 (.t 5) z1) ::
og 15 12 true (.loadn 2 (.t 14)) ::
ocg 16 12 true 215 [(.t 13), (.t 15)] ::
oo 17 (.pick (.t 12) (.t 16) (.c (Value.bool false))) ::
om 4 17 :: [])) .ret)))
def r127 : List ResultVar := [.tmp 4]
theorem fun127 : Fun Tryz.prog 127 18 2 a127 r127 :=
  ⟨rfl, Tryz.f127, _, rfl, rfl, rfl, by decide, rfl, rfl, rfl⟩
noncomputable def a128 : ACode := (.seq (.reg (
 oo 3 (.box (.t 0) 135) ::
oo 4 (.box (.t 1) 222) ::
oo 5 (.box (.t 2) 139) ::
oo 6 (.mv z0) :: [])) (.seq (.dreg (
 oo 10 (.faddr 0 (.t 5)) ::
oo 11 (.load1 (.t 10)) ::
oo 12 (.int .mul (.c (Value.int .i64 20000000000)) (.t 11)) ::
oo 13 (.faddr 0 (.t 3)) ::
oo 14 (.faddr 2 (.t 13)) ::
oo 15 (.load1 (.t 14)) ::
oo 16 (.faddr 0 (.t 3)) ::
oo 17 (.faddr 0 (.t 16)) ::
oo 18 (.load1 (.t 17)) ::
oo 19 (.int .mul (.t 15) (.t 18)) ::
oo 20 (.faddr 0 (.t 3)) ::
oo 21 (.faddr 0 (.t 20)) ::
oo 22 (.load1 (.t 21)) ::
oo 23 (.int .mul (.t 19) (.t 22)) ::
oo 24 (.idiv true (.t 12) (.t 23)) ::
oo 25 (.mnmx false (.c (Value.int .i64 1000000000)) (.t 24)) ::
oo 26 (.faddr 4 (.t 5)) ::
oo 27 (.load1 (.t 26)) ::
oo 28 (.int .sub (.c (Value.int .i64 1000)) (.t 27)) ::
oo 29 (.int .mul (.t 25) (.t 28)) ::
oo 30 (.idiv true (.t 29) (.c (Value.int .i64 1000))) ::
om 7 30 :: []) []) (.seq (.reg (
 oo 31 (.loadn 2 (.t 4)) ::
oo 32 (.mkfn (Fn.func 216) [(.t 31)] []) ::
oo 8 (.alloc [Value.nilFunc] 215) ::
oz (.store 1 (.t 8) (.t 32)) :: [])) (.seq (.reg (
 oo 33 (.mkfn (Fn.func 217) [] [(.t 5), (.t 8)]) ::
om 9 33 :: [])) (.seq (.dreg (
 om 34 7 ::
om 35 9 ::
oo 36 (.loadn 16 (.t 3)) ::
oo 37 (.faddr 1 (.t 5)) ::
oo 38 (.load1 (.t 37)) ::
oc 39 218 [(.t 36), (.t 38)] ::
⟨(some 40), none, (.call (.t 35) [(.t 39)])⟩ ::
oo 41 (.int .sub (.t 34) (.t 40)) ::
om 42 9 ::
oo 43 (.loadn 16 (.t 3)) ::
oo 44 (.faddr 2 (.t 5)) ::
oo 45 (.load1 (.t 44)) ::
oc 46 219 [(.t 43), (.t 45)] ::
⟨(some 47), none, (.call (.t 42) [(.t 46)])⟩ ::
oo 48 (.int .add (.t 41) (.t 47)) ::
oo 49 (.faddr 5 (.t 5)) ::
oo 50 (.load1 (.t 49)) ::
oo 51 (.int .add (.t 48) (.t 50)) ::
om 6 51 :: []) []) .ret)))))
def r128 : List ResultVar := [.tmp 6]
theorem fun128 : Fun Tryz.prog 128 52 3 a128 r128 :=
  ⟨rfl, Tryz.f128, _, rfl, rfl, rfl, by decide, rfl, rfl, rfl⟩
noncomputable def a145 : ACode := (.seq (.reg (
 oo 3 (.mv (.c (Value.bool false))) :: [])) (.seq (.reg (
 om 4 0 ::
oo 5 (.load1 (.t 1)) ::
oo 6 (.neg (.t 5)) ::
oo 7 (.int .lss (.t 4) (.t 6)) ::
om 8 7 ::
og 9 8 false (.mv (.t 0)) ::
og 10 8 false (.load1 (.t 1)) ::
og 11 8 false (.int .gtr (.t 9) (.t 10)) ::
oo 12 (.pick (.t 8) (.c (Value.bool true)) (.t 11)) ::
om 3 12 :: [])) .ret))
def r145 : List ResultVar := [.tmp 3]
theorem fun145 : Fun Tryz.prog 145 13 2 a145 r145 :=
  ⟨rfl, Tryz.f145, _, rfl, rfl, rfl, by decide, rfl, rfl, rfl⟩
noncomputable def a146 : ACode := (.seq (.reg (
 oo 0 (.mv (.c (Value.bool false))) :: [])) (.seq (.reg (
 oc 1 229 [] ::
om 2 1 ::
ocg 3 2 true 230 [] ::
oo 4 (.pick (.t 2) (.t 3) (.c (Value.bool false))) ::
om 5 4 ::
ocg 6 5 true 231 [] ::
oo 7 (.pick (.t 5) (.t 6) (.c (Value.bool false))) ::
om 0 7 :: [])) .ret))
def r146 : List ResultVar := [.tmp 0]
theorem fun146 : Fun Tryz.prog 146 8 0 a146 r146 :=
  ⟨rfl, Tryz.f146, _, rfl, rfl, rfl, by decide, rfl, rfl, rfl⟩
noncomputable def a188 : ACode := (.seq (.reg (
 oo 4 (.mv z0) :: [])) (.seq (.seq (.reg (
 om 6 0 ::
oo 7 (.len (.t 6)) ::
oo 8 (.mv z0) :: [])) (.block 0 (.loop (.seq (.reg (
 oo 9 (.int .lss (.t 8) (.t 7)) :: [])) (.seq (.cond (.t 9) .skip (.exit 0)) (.seq (.block 1 (.seq (.reg (
 om 10 8 ::
om 5 10 :: [])) (.seq (.reg (
 om 11 1 ::
om 12 0 ::
om 13 5 ::
oo 14 (.ixsl 4 (.t 12) (.t 13)) ::
oo 15 (.loadn 4 (.t 14)) ::
⟨(some 16), none, (.call (.t 11) [(.t 15)])⟩ :: [])) (.cond (.t 16) (.seq (.reg (
 om 17 5 ::
om 4 17 :: [])) .ret) .skip)))) (.reg (
 oo 18 (.int .add (.t 8) z1) ::
om 8 18 :: [])))))))) (.seq (.reg (
 oo 4 (.mv (.c (Value.int .i64 (-1)))) :: [])) .ret)))
def r188 : List ResultVar := [.tmp 4]
theorem fun188 : Fun Tryz.prog 188 19 2 a188 r188 :=
  ⟨rfl, Tryz.f188, _, rfl, rfl, rfl, by decide, rfl, rfl, rfl⟩
noncomputable def a189 : ACode := (.seq (.reg (
 oo 4 (.mv z0) :: [])) (.seq (.seq (.reg (
 om 8 1 ::
⟨(some 9), none, (.call (.t 8) [])⟩ ::
om 7 9 ::
oo 10 (.extract (.t 7) 0) ::
oo 11 (.extract (.t 7) 1) ::
om 5 10 ::
om 6 11 :: [])) (.seq (.reg (
 om 12 6 :: [])) (.cond (.t 12) (.seq (.reg (
 om 13 0 ::
om 14 5 ::
oo 15 (.mnmx false (.t 13) (.t 14)) ::
om 4 15 :: [])) .ret) .skip))) (.seq (.reg (
 om 16 0 ::
om 4 16 :: [])) .ret)))
def r189 : List ResultVar := [.tmp 4]
theorem fun189 : Fun Tryz.prog 189 17 2 a189 r189 :=
  ⟨rfl, Tryz.f189, _, rfl, rfl, rfl, by decide, rfl, rfl, rfl⟩
noncomputable def a190 : ACode := (.seq (.reg (
 oo 1 (.mv z0) ::
oo 2 (.mv (.c (Value.bool false))) :: [])) (.seq (.dreg (
 oo 3 (.faddr 1 (.t 0)) ::
oo 4 (.load1 (.t 3)) ::
oo 5 (.faddr 0 (.t 0)) ::
oo 6 (.load1 (.t 5)) ::
om 1 4 ::
om 2 6 :: []) []) .ret))
def r190 : List ResultVar := [.tmp 1, .tmp 2]
theorem fun190 : Fun Tryz.prog 190 7 1 a190 r190 :=
  ⟨rfl, Tryz.f190, _, rfl, rfl, rfl, by decide, rfl, rfl, rfl⟩
noncomputable def a191 : ACode := (.seq (.reg (
 oo 1 (.box (.t 0) 101) ::
oo 2 (.mv (.c (Value.nilFunc))) :: [])) (.seq (.reg (
 oo 3 (.mkfn (Fn.func 282) [] [(.t 1)]) ::
om 2 3 :: [])) .ret))
def r191 : List ResultVar := [.tmp 2]
theorem fun191 : Fun Tryz.prog 191 4 1 a191 r191 :=
  ⟨rfl, Tryz.f191, _, rfl, rfl, rfl, by decide, rfl, rfl, rfl⟩
noncomputable def a205 : ACode := (.seq (.reg (
 oo 4 (.mv z0) :: [])) (.seq (.seq (.reg (
 om 6 0 ::
oo 7 (.len (.t 6)) ::
oo 8 (.mv z0) :: [])) (.block 0 (.loop (.seq (.reg (
 oo 9 (.int .lss (.t 8) (.t 7)) :: [])) (.seq (.cond (.t 9) .skip (.exit 0)) (.seq (.block 1 (.seq (.reg (
 om 10 8 ::
om 5 10 :: [])) (.seq (.reg (
 om 11 1 ::
om 12 0 ::
om 13 5 ::
oo 14 (.ixsl 1 (.t 12) (.t 13)) ::
oo 15 (.load1 (.t 14)) ::
⟨(some 16), none, (.call (.t 11) [(.t 15)])⟩ :: [])) (.cond (.t 16) (.seq (.reg (
 om 17 5 ::
om 4 17 :: [])) .ret) .skip)))) (.reg (
 oo 18 (.int .add (.t 8) z1) ::
om 8 18 :: [])))))))) (.seq (.reg (
 oo 4 (.mv (.c (Value.int .i64 (-1)))) :: [])) .ret)))
def r205 : List ResultVar := [.tmp 4]
theorem fun205 : Fun Tryz.prog 205 19 2 a205 r205 :=
  ⟨rfl, Tryz.f205, _, rfl, rfl, rfl, by decide, rfl, rfl, rfl⟩
noncomputable def a209A0 : ACode := (.reg (
 oo 3 (.alloc [k0, k0, k0, k0] 327) ::
oz (.store 4 (.t 3) (.t 5)) :: []))
noncomputable def a209B0 : ACode := (.block 1 (.seq (.reg (
 oo 6 (.faddr 0 (.t 3)) ::
oo 7 (.faddr 0 (.t 6)) ::
oo 8 (.load1 (.t 7)) ::
oo 9 (.faddr 2 (.t 3)) ::
oo 10 (.load1 (.t 9)) ::
oo 11 (.int .lss (.t 8) (.t 10)) ::
om 12 11 ::
og 13 12 false (.faddr 0 (.t 3)) ::
og 14 12 false (.faddr 0 (.t 13)) ::
og 15 12 false (.load1 (.t 14)) ::
og 16 12 false (.faddr 0 (.t 3)) ::
og 17 12 false (.faddr 1 (.t 16)) ::
og 18 12 false (.load1 (.t 17)) ::
og 19 12 false (.int .gtr (.t 15) (.t 18)) ::
oo 20 (.pick (.t 12) (.c (Value.bool true)) (.t 19)) ::
om 21 20 ::
og 22 21 false (.faddr 0 (.t 3)) ::
og 23 21 false (.faddr 1 (.t 22)) ::
og 24 21 false (.load1 (.t 23)) ::
og 25 21 false (.faddr 3 (.t 3)) ::
og 26 21 false (.load1 (.t 25)) ::
og 27 21 false (.int .gtr (.t 24) (.t 26)) ::
oo 28 (.pick (.t 21) (.c (Value.bool true)) (.t 27)) :: [])) (.cond (.t 28) (.seq (.reg (
 oz (.store 1 (.t 2) (.c (Value.bool false))) :: [])) .ret) .skip)))
theorem c209A0 : cCode Tryz.prog 29 false (rfAt Tryz.f209 0).1 = some a209A0 := rfl
theorem c209B0 : cCode Tryz.prog 29 false (rfAt Tryz.f209 0).2 = some a209B0 := rfl
noncomputable def a209 : ACode := (.seq (.reg (
 oo 2 (.alloc [Value.bool false] 4) :: [])) (.seq (.seq (.reg (
 om 4 0 :: [])) (.block 0 (.range (.t 4) [5] 29 (rfAt Tryz.f209 0).1 (rfAt Tryz.f209 0).2 a209A0 a209B0))) (.seq (.reg (
 oz (.store 1 (.t 2) (.c (Value.bool true))) :: [])) .ret)))
def r209 : List ResultVar := [.cell 2 4]
theorem fun209 : Fun Tryz.prog 209 29 1 a209 r209 :=
  ⟨rfl, Tryz.f209, _, rfl, rfl, rfl, by decide, rfl, rfl, rfl⟩
noncomputable def a210 : ACode := (.seq (.reg (
 oo 2 (.mv (.c (Value.nilFunc))) :: [])) (.seq (.reg (
 om 3 0 ::
oc 4 294 [(.t 3)] ::
om 2 4 :: [])) .ret))
def r210 : List ResultVar := [.tmp 2]
theorem fun210 : Fun Tryz.prog 210 5 1 a210 r210 :=
  ⟨rfl, Tryz.f210, _, rfl, rfl, rfl, by decide, rfl, rfl, rfl⟩
noncomputable def a211 : ACode := (.seq (.reg (
 oo 6 (.alloc [k0, k0, k0, k0] 327) :: [])) (.seq (.reg (
 om 7 0 ::
om 8 0 ::
oo 9 (.build [k0, k0] [(0, 1, (.t 7)), (1, 1, (.t 8))]) ::
om 10 1 ::
om 11 2 ::
oo 12 (.build [k0, k0, k0, k0] [(0, 2, (.t 9)), (2, 1, (.t 10)), (3, 1, (.t 11))]) ::
oz (.store 4 (.t 6) (.t 12)) :: [])) .ret))
def r211 : List ResultVar := [.cell 6 327]
theorem fun211 : Fun Tryz.prog 211 13 3 a211 r211 :=
  ⟨rfl, Tryz.f211, _, rfl, rfl, rfl, by decide, rfl, rfl, rfl⟩
noncomputable def a212 : ACode := (.seq (.reg (
 oo 1 (.box (.t 0) 71) ::
oo 2 (.mv z0) :: [])) (.seq (.block 0 (.seq (.reg (
 oo 8 (.faddr 0 (.t 1)) ::
oo 9 (.load1 (.t 8)) ::
oo 10 (.len (.t 9)) ::
oo 11 (.int .lss (.t 10) (.c (Value.int .i64 2))) ::
om 12 11 ::
og 13 12 false (.faddr 0 (.t 1)) ::
og 14 12 false (.load1 (.t 13)) ::
og 15 12 false (.len (.t 14)) ::
og 16 12 false (.int .gtr (.t 15) (.c (Value.int .i64 12))) ::
oo 17 (.pick (.t 12) (.c (Value.bool true)) (.t 16)) ::
om 7 17 :: [])) (.cond (.t 7) (.seq (.reg (
 oo 2 (.mv (.c (Value.int .i64 6))) :: [])) .ret) (.seq (.reg (
 oo 19 (.faddr 1 (.t 1)) ::
oo 20 (.load1 (.t 19)) ::
oo 21 (.len (.t 20)) ::
oo 22 (.faddr 0 (.t 1)) ::
oo 23 (.load1 (.t 22)) ::
oo 24 (.len (.t 23)) ::
oo 25 (.int .neq (.t 21) (.t 24)) ::
om 18 25 :: [])) (.cond (.t 18) (.seq (.reg (
 oo 2 (.mv (.c (Value.int .i64 15))) :: [])) .ret) .skip))))) (.seq (.reg (
 oo 3 (.mv z0) ::
oo 4 (.mv (.c (Value.int .i64 100000))) :: [])) (.seq (.seq (.reg (
 oo 26 (.faddr 0 (.t 1)) ::
oo 27 (.load1 (.t 26)) ::
oo 28 (.len (.t 27)) ::
oo 29 (.mv z0) :: [])) (.block 1 (.loop (.seq (.reg (
 oo 30 (.int .lss (.t 29) (.t 28)) :: [])) (.seq (.cond (.t 30) .skip (.exit 1)) (.seq (.block 2 (.seq (.reg (
 om 31 29 ::
oo 32 (.ixsl 1 (.t 27) (.t 29)) ::
oo 33 (.load1 (.t 32)) ::
om 5 31 ::
om 6 33 :: [])) (.seq (.seq (.dreg (
 om 34 6 ::
om 35 3 ::
oo 36 (.int .add (.t 35) z1) ::
oc 37 211 [(.t 34), (.t 36), (.c (Value.int .i64 1000000000))] ::
oo 38 (.faddr 1 (.t 1)) ::
oo 39 (.load1 (.t 38)) ::
om 40 5 ::
oo 41 (.ixsl 1 (.t 39) (.t 40)) ::
oo 42 (.load1 (.t 41)) ::
om 43 4 ::
oc 44 211 [(.t 42), z0, (.t 43)] ::
oo 45 (.bslice [k0, k0, k0, k0, k0, k0, k0, k0] [(0, 4, (.t 37)), (4, 4, (.t 44))] 2 327) ::
oc 46 210 [(.t 45)] ::
oc 47 209 [(.t 46)] ::
oo 48 (.not (.t 47)) :: []) []) (.cond (.t 48) (.seq (.reg (
 oo 2 (.mv (.c (Value.int .i64 2))) :: [])) .ret) .skip)) (.dreg (
 om 49 6 ::
oo 50 (.faddr 1 (.t 1)) ::
oo 51 (.load1 (.t 50)) ::
om 52 5 ::
oo 53 (.ixsl 1 (.t 51) (.t 52)) ::
oo 54 (.load1 (.t 53)) ::
om 3 49 ::
om 4 54 :: []) [])))) (.reg (
 oo 55 (.int .add (.t 29) z1) ::
om 29 55 :: [])))))))) (.seq (.reg (
 oo 2 (.mv z0) :: [])) .ret)))))
def r212 : List ResultVar := [.tmp 2]
theorem fun212 : Fun Tryz.prog 212 56 1 a212 r212 :=
  ⟨rfl, Tryz.f212, _, rfl, rfl, rfl, by decide, rfl, rfl, rfl⟩
noncomputable def a213 : ACode := (.seq (.reg (
 oo 4 (.mv z0) :: [])) (.seq (.seq (.reg (
 om 6 0 ::
oo 7 (.len (.t 6)) ::
oo 8 (.mv z0) :: [])) (.block 0 (.loop (.seq (.reg (
 oo 9 (.int .lss (.t 8) (.t 7)) :: [])) (.seq (.cond (.t 9) .skip (.exit 0)) (.seq (.block 1 (.seq (.reg (
 om 10 8 ::
om 5 10 :: [])) (.seq (.reg (
 om 11 1 ::
om 12 0 ::
om 13 5 ::
oo 14 (.ixsl 2 (.t 12) (.t 13)) ::
oo 15 (.loadn 2 (.t 14)) ::
⟨(some 16), none, (.call (.t 11) [(.t 15)])⟩ :: [])) (.cond (.t 16) (.seq (.reg (
 om 17 5 ::
om 4 17 :: [])) .ret) .skip)))) (.reg (
 oo 18 (.int .add (.t 8) z1) ::
om 8 18 :: [])))))))) (.seq (.reg (
 oo 4 (.mv (.c (Value.int .i64 (-1)))) :: [])) .ret)))
def r213 : List ResultVar := [.tmp 4]
theorem fun213 : Fun Tryz.prog 213 19 2 a213 r213 :=
  ⟨rfl, Tryz.f213, _, rfl, rfl, rfl, by decide, rfl, rfl, rfl⟩
noncomputable def a214 : ACode := (.seq (.reg (
 oo 1 (.box (.t 0) 135) ::
oo 2 (.alloc [k0, k0, k0, k0] 330) :: [])) (.seq (.dreg (
 oo 3 (.loadn 16 (.t 1)) ::
oo 4 (.faddr 0 (.t 1)) ::
oo 5 (.faddr 6 (.t 4)) ::
oo 6 (.faddr 1 (.t 5)) ::
oo 7 (.load1 (.t 6)) ::
oc 8 218 [(.t 3), (.t 7)] ::
oo 9 (.loadn 16 (.t 1)) ::
oo 10 (.faddr 0 (.t 1)) ::
oo 11 (.faddr 6 (.t 10)) ::
oo 12 (.faddr 0 (.t 11)) ::
oo 13 (.load1 (.t 12)) ::
oc 14 218 [(.t 9), (.t 13)] ::
oo 15 (.build [k0, k0] [(0, 1, (.t 8)), (1, 1, (.t 14))]) ::
oo 16 (.loadn 16 (.t 1)) ::
oo 17 (.faddr 0 (.t 1)) ::
oo 18 (.faddr 8 (.t 17)) ::
oo 19 (.faddr 1 (.t 18)) ::
oo 20 (.load1 (.t 19)) ::
oc 21 219 [(.t 16), (.t 20)] ::
oo 22 (.loadn 16 (.t 1)) ::
oo 23 (.faddr 0 (.t 1)) ::
oo 24 (.faddr 8 (.t 23)) ::
oo 25 (.faddr 0 (.t 24)) ::
oo 26 (.load1 (.t 25)) ::
oc 27 219 [(.t 22), (.t 26)] ::
oo 28 (.build [k0, k0] [(0, 1, (.t 21)), (1, 1, (.t 27))]) ::
oo 29 (.build [k0, k0, k0, k0] [(0, 2, (.t 15)), (2, 2, (.t 28))]) ::
oz (.store 4 (.t 2) (.t 29)) :: []) []) .ret))
def r214 : List ResultVar := [.cell 2 330]
theorem fun214 : Fun Tryz.prog 214 30 1 a214 r214 :=
  ⟨rfl, Tryz.f214, _, rfl, rfl, rfl, by decide, rfl, rfl, rfl⟩
noncomputable def a215 : ACode := (.seq (.reg (
 oo 2 (.box (.t 0) 222) ::
oo 3 (.box (.t 1) 23) ::
oo 4 (.mv (.c (Value.bool false))) :: [])) (.seq (.reg (
 oo 6 (.loadn 2 (.t 2)) ::
oc 7 295 [(.t 6)] ::
oo 5 (.alloc [k0, k0] 340) ::
oz (.store 2 (.t 5) (.t 7)) :: [])) (.seq (.reg (
 oo 8 (.faddr 0 (.t 3)) ::
oo 9 (.load1 (.t 8)) ::
oo 10 (.ixarr 2 1 (.t 5) z0) ::
oo 11 (.load1 (.t 10)) ::
oo 12 (.int .geq (.t 9) (.t 11)) ::
om 13 12 ::
og 14 13 true (.faddr 1 (.t 3)) ::
og 15 13 true (.load1 (.t 14)) ::
og 16 13 true (.ixarr 2 1 (.t 5) z1) ::
og 17 13 true (.load1 (.t 16)) ::
og 18 13 true (.int .leq (.t 15) (.t 17)) ::
oo 19 (.pick (.t 13) (.t 18) (.c (Value.bool false))) ::
om 4 19 :: [])) .ret)))
def r215 : List ResultVar := [.tmp 4]
theorem fun215 : Fun Tryz.prog 215 20 2 a215 r215 :=
  ⟨rfl, Tryz.f215, _, rfl, rfl, rfl, by decide, rfl, rfl, rfl⟩
noncomputable def a216 : ACode := (.seq (.reg (
 oo 2 (.box (.t 0) 222) ::
oo 4 (.mv z0) :: [])) (.seq (.reg (
 oo 7 (.faddr 0 (.t 2)) ::
oo 8 (.faddr 0 (.t 7)) ::
oo 9 (.load1 (.t 8)) ::
om 10 1 ::
oc 11 296 [(.t 9), (.t 10)] ::
om 5 11 :: [])) (.seq (.seq (.reg (
 oo 12 (.faddr 0 (.t 2)) ::
oo 13 (.faddr 0 (.t 12)) ::
oo 14 (.load1 (.t 13)) ::
om 15 5 ::
oo 16 (.ixsl 1 (.t 14) (.t 15)) ::
oo 17 (.load1 (.t 16)) ::
om 18 1 ::
oo 19 (.int .eql (.t 17) (.t 18)) :: [])) (.cond (.t 19) (.seq (.reg (
 oo 20 (.faddr 0 (.t 2)) ::
oo 21 (.faddr 1 (.t 20)) ::
oo 22 (.load1 (.t 21)) ::
om 23 5 ::
oo 24 (.ixsl 1 (.t 22) (.t 23)) ::
oo 25 (.load1 (.t 24)) ::
om 4 25 :: [])) .ret) .skip)) (.seq (.dreg (
 oo 26 (.faddr 0 (.t 2)) ::
oo 27 (.faddr 1 (.t 26)) ::
oo 28 (.load1 (.t 27)) ::
om 29 5 ::
oo 30 (.int .sub (.t 29) z1) ::
oo 31 (.ixsl 1 (.t 28) (.t 30)) ::
oo 32 (.load1 (.t 31)) ::
oo 33 (.faddr 0 (.t 2)) ::
oo 34 (.faddr 1 (.t 33)) ::
oo 35 (.load1 (.t 34)) ::
om 36 5 ::
oo 37 (.ixsl 1 (.t 35) (.t 36)) ::
oo 38 (.load1 (.t 37)) ::
oo 39 (.int .sub (.t 32) (.t 38)) ::
om 40 1 ::
oo 41 (.faddr 0 (.t 2)) ::
oo 42 (.faddr 0 (.t 41)) ::
oo 43 (.load1 (.t 42)) ::
om 44 5 ::
oo 45 (.int .sub (.t 44) z1) ::
oo 46 (.ixsl 1 (.t 43) (.t 45)) ::
oo 47 (.load1 (.t 46)) ::
oo 48 (.int .sub (.t 40) (.t 47)) ::
oo 49 (.int .mul (.t 39) (.t 48)) ::
oo 50 (.faddr 0 (.t 2)) ::
oo 51 (.faddr 0 (.t 50)) ::
oo 52 (.load1 (.t 51)) ::
om 53 5 ::
oo 54 (.ixsl 1 (.t 52) (.t 53)) ::
oo 55 (.load1 (.t 54)) ::
oo 56 (.faddr 0 (.t 2)) ::
oo 57 (.faddr 0 (.t 56)) ::
oo 58 (.load1 (.t 57)) ::
om 59 5 ::
oo 60 (.int .sub (.t 59) z1) ::
oo 61 (.ixsl 1 (.t 58) (.t 60)) ::
oo 62 (.load1 (.t 61)) ::
oo 63 (.int .sub (.t 55) (.t 62)) ::
oo 64 (.idiv true (.t 49) (.t 63)) ::
om 6 64 :: []) []) (.seq (.reg (
 oo 65 (.faddr 0 (.t 2)) ::
oo 66 (.faddr 1 (.t 65)) ::
oo 67 (.load1 (.t 66)) ::
om 68 5 ::
oo 69 (.int .sub (.t 68) z1) ::
oo 70 (.ixsl 1 (.t 67) (.t 69)) ::
oo 71 (.load1 (.t 70)) ::
om 72 6 ::
oo 73 (.int .sub (.t 71) (.t 72)) ::
om 4 73 :: [])) .ret)))))
def r216 : List ResultVar := [.tmp 4]
theorem fun216 : Fun Tryz.prog 216 74 2 a216 r216 :=
  ⟨rfl, Tryz.f216, _, rfl, rfl, rfl, by decide, rfl, rfl, rfl⟩
noncomputable def a217 : ACode := (.seq (.reg (
 oo 4 (.mv z0) :: [])) (.seq (.dreg (
 oo 5 (.faddr 3 (.t 1)) ::
oo 6 (.load1 (.t 5)) ::
oo 7 (.int .add (.c (Value.int .i64 1000)) (.t 6)) ::
oo 8 (.load1 (.t 2)) ::
om 9 0 ::
⟨(some 10), none, (.call (.t 8) [(.t 9)])⟩ ::
oo 11 (.int .mul (.t 7) (.t 10)) ::
oo 12 (.idiv true (.t 11) (.c (Value.int .i64 1000))) ::
om 4 12 :: []) []) .ret))
def r217 : List ResultVar := [.tmp 4]
theorem fun217 : Fun Tryz.prog 217 13 3 a217 r217 :=
  ⟨rfl, Tryz.f217, _, rfl, rfl, rfl, by decide, rfl, rfl, rfl⟩
noncomputable def a218 : ACode := (.seq (.reg (
 oo 2 (.box (.t 0) 135) ::
oo 4 (.mv z0) :: [])) (.seq (.reg (
 oo 5 (.faddr 0 (.t 2)) ::
oo 6 (.faddr 0 (.t 5)) ::
oo 7 (.load1 (.t 6)) ::
oo 8 (.faddr 0 (.t 2)) ::
oo 9 (.faddr 1 (.t 8)) ::
oo 10 (.load1 (.t 9)) ::
oo 11 (.int .mul (.t 7) (.t 10)) ::
om 12 1 ::
oo 13 (.idiv true (.t 11) (.t 12)) ::
om 4 13 :: [])) .ret))
def r218 : List ResultVar := [.tmp 4]
theorem fun218 : Fun Tryz.prog 218 14 2 a218 r218 :=
  ⟨rfl, Tryz.f218, _, rfl, rfl, rfl, by decide, rfl, rfl, rfl⟩
noncomputable def a219 : ACode := (.seq (.reg (
 oo 2 (.box (.t 0) 135) ::
oo 4 (.mv z0) :: [])) (.seq (.reg (
 oo 5 (.faddr 0 (.t 2)) ::
oo 6 (.faddr 0 (.t 5)) ::
oo 7 (.load1 (.t 6)) ::
oo 8 (.faddr 0 (.t 2)) ::
oo 9 (.faddr 1 (.t 8)) ::
oo 10 (.load1 (.t 9)) ::
oo 11 (.int .mul (.t 7) (.t 10)) ::
oo 12 (.faddr 0 (.t 2)) ::
oo 13 (.faddr 3 (.t 12)) ::
oo 14 (.load1 (.t 13)) ::
oo 15 (.int .mul (.t 11) (.t 14)) ::
oo 16 (.faddr 0 (.t 2)) ::
oo 17 (.faddr 3 (.t 16)) ::
oo 18 (.load1 (.t 17)) ::
oo 19 (.int .mul (.t 15) (.t 18)) ::
oo 20 (.faddr 0 (.t 2)) ::
oo 21 (.faddr 3 (.t 20)) ::
oo 22 (.load1 (.t 21)) ::
oo 23 (.int .mul (.t 19) (.t 22)) ::
om 24 1 ::
oo 25 (.idiv true (.t 23) (.t 24)) ::
om 4 25 :: [])) .ret))
def r219 : List ResultVar := [.tmp 4]
theorem fun219 : Fun Tryz.prog 219 26 2 a219 r219 :=
  ⟨rfl, Tryz.f219, _, rfl, rfl, rfl, by decide, rfl, rfl, rfl⟩
noncomputable def a278 : ACode := (.seq (.reg (
 oo 4 (.mv (.c (Value.bool false))) :: [])) (.seq (.reg (
 om 5 0 ::
oc 6 354 [(.t 5)] ::
om 7 6 ::
og 8 7 true (.mv (.t 1)) ::
ocg 9 7 true 354 [(.t 8)] ::
og 10 7 true (.not (.t 9)) ::
oo 11 (.pick (.t 7) (.t 10) (.c (Value.bool false))) ::
om 12 11 ::
og 13 12 false (.mv (.t 0)) ::
og 14 12 false (.mv (.t 1)) ::
og 15 12 false (.int .lss (.t 13) (.t 14)) ::
oo 16 (.pick (.t 12) (.c (Value.bool true)) (.t 15)) ::
om 4 16 :: [])) .ret))
def r278 : List ResultVar := [.tmp 4]
theorem fun278 : Fun Tryz.prog 278 17 2 a278 r278 :=
  ⟨rfl, Tryz.f278, _, rfl, rfl, rfl, by decide, rfl, rfl, rfl⟩
noncomputable def a282 : ACode := (.seq (.reg (
 oo 7 (.load1 (.t 1)) ::
oo 8 (.nilck (.t 7)) ::
oo 9 (.faddr 6 (.t 8)) ::
oo 10 (.loadn 338 (.t 9)) ::
oo 11 (.mv z0) :: [])) (.block 0 (.loop (.seq (.reg (
 oo 12 (.int .lss (.t 11) (.c (Value.int .i64 13))) :: [])) (.seq (.cond (.t 12) .skip (.exit 0)) (.seq (.block 1 (.seq (.reg (
 om 13 11 ::
oo 14 (.ixvn 13 26 (.t 10) (.t 11)) ::
oo 4 (.alloc [Value.bool false, k0, Value.bool false, k0, Value.bool false, k0, Value.bool false, k0, Value.bool false, k0, Value.bool false, k0, Value.bool false, k0, Value.bool false, k0, Value.bool false, k0, Value.bool false, k0, Value.bool false, k0, Value.bool false, k0, Value.bool false, k0] 184) ::
om 3 13 ::
oz (.store 26 (.t 4) (.t 14)) :: [])) (.seq (.seq (.reg (
 oo 15 (.loadn 26 (.t 4)) ::
oo 16 (.build [Value.bool false, k0, Value.bool false, k0, Value.bool false, k0, Value.bool false, k0, Value.bool false, k0, Value.bool false, k0, Value.bool false, k0, Value.bool false, k0, Value.bool false, k0, Value.bool false, k0, Value.bool false, k0, Value.bool false, k0, Value.bool false, k0] []) ::
oo 17 (.pure (rawOp Tryz.f282 3 2)) :: [])) (.cond (.t 17) (.exit 1) .skip)) (.seq (.reg (
 oo 18 (.loadn 26 (.t 4)) ::
oo 19 (.mv z0) :: [])) (.block 2 (.loop (.seq (.reg (
 oo 20 (.int .lss (.t 19) (.c (Value.int .i64 13))) :: [])) (.seq (.cond (.t 20) .skip (.exit 2)) (.seq (.block 3 (.seq (.reg (
 om 21 19 ::
oo 22 (.ixvn 13 2 (.t 18) (.t 19)) ::
oo 6 (.alloc [Value.bool false, k0] 182) ::
om 5 21 ::
oz (.store 2 (.t 6) (.t 22)) :: [])) (.seq (.reg (
 oo 23 (.faddr 0 (.t 6)) ::
oo 24 (.load1 (.t 23)) ::
om 25 24 ::
og 26 25 true (.mv (.t 0)) ::
og 27 25 true (.mv (.t 3)) ::
og 28 25 true (.mv (.t 5)) ::
og 29 25 true (.faddr 1 (.t 6)) ::
og 30 25 true (.load1 (.t 29)) ::
og 31 25 true (.build [k0, k0, k0] [(0, 1, (.t 27)), (1, 1, (.t 28)), (2, 1, (.t 30))]) ::
⟨(some 32), (some (25, true)), (.call (.t 26) [(.t 31)])⟩ ::
og 33 25 true (.not (.t 32)) ::
oo 34 (.pick (.t 25) (.t 33) (.c (Value.bool false))) :: [])) (.cond (.t 34) .ret .skip)))) (.reg (
 oo 35 (.int .add (.t 19) z1) ::
om 19 35 :: []))))))))))) (.reg (
 oo 36 (.int .add (.t 11) z1) ::
om 11 36 :: []))))))))
def r282 : List ResultVar := []
theorem fun282 : Fun Tryz.prog 282 37 2 a282 r282 :=
  ⟨rfl, Tryz.f282, _, rfl, rfl, rfl, by decide, rfl, rfl, rfl⟩
noncomputable def a294 : ACode := (.seq (.reg (
 oo 1 (.box (.t 0) 423) ::
oo 2 (.mv (.c (Value.nilFunc))) :: [])) (.seq (.reg (
 oo 3 (.mkfn (Fn.func 361) [] [(.t 1)]) ::
om 2 3 :: [])) .ret))
def r294 : List ResultVar := [.tmp 2]
theorem fun294 : Fun Tryz.prog 294 4 1 a294 r294 :=
  ⟨rfl, Tryz.f294, _, rfl, rfl, rfl, by decide, rfl, rfl, rfl⟩
noncomputable def a295 : ACode := (.seq (.reg (
 oo 1 (.box (.t 0) 222) ::
oo 2 (.alloc [k0, k0] 340) :: [])) (.seq (.dreg (
 oo 3 (.faddr 0 (.t 1)) ::
oo 4 (.faddr 0 (.t 3)) ::
oo 5 (.load1 (.t 4)) ::
oo 6 (.ixsl 1 (.t 5) z0) ::
oo 7 (.load1 (.t 6)) ::
oo 8 (.faddr 0 (.t 1)) ::
oo 9 (.faddr 0 (.t 8)) ::
oo 10 (.load1 (.t 9)) ::
oo 11 (.faddr 0 (.t 1)) ::
oo 12 (.faddr 0 (.t 11)) ::
oo 13 (.load1 (.t 12)) ::
oo 14 (.len (.t 13)) ::
oo 15 (.int .sub (.t 14) z1) ::
oo 16 (.ixsl 1 (.t 10) (.t 15)) ::
oo 17 (.load1 (.t 16)) ::
oo 18 (.build [k0, k0] [(0, 1, (.t 7)), (1, 1, (.t 17))]) ::
oz (.store 2 (.t 2) (.t 18)) :: []) []) .ret))
def r295 : List ResultVar := [.cell 2 340]
theorem fun295 : Fun Tryz.prog 295 19 1 a295 r295 :=
  ⟨rfl, Tryz.f295, _, rfl, rfl, rfl, by decide, rfl, rfl, rfl⟩
noncomputable def a296 : ACode := (.seq (.reg (
 oo 4 (.mv z0) :: [])) (.seq (.reg (
 om 8 0 ::
om 9 1 ::
oc 10 351 [(.t 8), (.t 9)] ::
om 7 10 ::
oo 11 (.extract (.t 7) 0) ::
oo 12 (.extract (.t 7) 1) ::
om 5 11 ::
om 6 12 :: [])) (.seq (.reg (
 om 13 5 ::
om 4 13 :: [])) .ret)))
def r296 : List ResultVar := [.tmp 4]
theorem fun296 : Fun Tryz.prog 296 14 2 a296 r296 :=
  ⟨rfl, Tryz.f296, _, rfl, rfl, rfl, by decide, rfl, rfl, rfl⟩
noncomputable def a351 : ACode := (.seq (.reg (
 oo 4 (.mv z0) ::
oo 5 (.mv (.c (Value.bool false))) :: [])) (.seq (.reg (
 om 10 0 ::
oo 11 (.len (.t 10)) ::
om 6 11 :: [])) (.seq (.reg (
 om 12 6 ::
oo 7 (.mv z0) ::
om 8 12 :: [])) (.seq (.block 0 (.loop (.seq (.seq (.reg (
 om 13 7 ::
om 14 8 ::
oo 15 (.int .lss (.t 13) (.t 14)) :: [])) (.cond (.t 15) .skip (.exit 0))) (.block 1 (.seq (.reg (
 om 16 7 ::
om 17 8 ::
oo 18 (.int .add (.t 16) (.t 17)) ::
oo 19 (.conv .u64 (.t 18)) ::
oo 20 (.pure (rawOp Tryz.f351 4 4)) ::
oo 21 (.conv .i64 (.t 20)) ::
om 9 21 :: [])) (.seq (.reg (
 om 22 0 ::
om 23 9 ::
oo 24 (.ixsl 1 (.t 22) (.t 23)) ::
oo 25 (.load1 (.t 24)) ::
om 26 1 ::
oc 27 278 [(.t 25), (.t 26)] :: [])) (.cond (.t 27) (.reg (
 om 28 9 ::
oo 29 (.int .add (.t 28) z1) ::
om 7 29 :: [])) (.reg (
 om 30 9 ::
om 8 30 :: []))))))))) (.seq (.reg (
 om 31 7 ::
om 32 7 ::
om 33 6 ::
oo 34 (.int .lss (.t 32) (.t 33)) ::
om 35 34 ::
og 36 35 true (.mv (.t 0)) ::
og 37 35 true (.mv (.t 7)) ::
og 38 35 true (.ixsl 1 (.t 36) (.t 37)) ::
og 39 35 true (.load1 (.t 38)) ::
og 40 35 true (.mv (.t 1)) ::
og 41 35 true (.int .eql (.t 39) (.t 40)) ::
og 42 35 true (.mv (.t 41)) ::
og 43 42 false (.mv (.t 0)) ::
og 44 42 false (.mv (.t 7)) ::
og 45 42 false (.ixsl 1 (.t 43) (.t 44)) ::
og 46 42 false (.load1 (.t 45)) ::
ocg 47 42 false 396 [(.t 46)] ::
og 48 42 false (.mv (.t 47)) ::
og 49 48 true (.mv (.t 1)) ::
ocg 50 48 true 396 [(.t 49)] ::
og 51 42 false (.pick (.t 48) (.t 50) (.c (Value.bool false))) ::
og 52 35 true (.pick (.t 42) (.c (Value.bool true)) (.t 51)) ::
oo 53 (.pick (.t 35) (.t 52) (.c (Value.bool false))) ::
om 4 31 ::
om 5 53 :: [])) .ret)))))
def r351 : List ResultVar := [.tmp 4, .tmp 5]
theorem fun351 : Fun Tryz.prog 351 54 2 a351 r351 :=
  ⟨rfl, Tryz.f351, _, rfl, rfl, rfl, by decide, rfl, rfl, rfl⟩
noncomputable def a354 : ACode := (.seq (.reg (
 oo 2 (.mv (.c (Value.bool false))) :: [])) (.seq (.reg (
 om 3 0 ::
om 4 0 ::
oo 5 (.int .neq (.t 3) (.t 4)) ::
om 2 5 :: [])) .ret))
def r354 : List ResultVar := [.tmp 2]
theorem fun354 : Fun Tryz.prog 354 6 1 a354 r354 :=
  ⟨rfl, Tryz.f354, _, rfl, rfl, rfl, by decide, rfl, rfl, rfl⟩
noncomputable def a361 : ACode := (.seq (.reg (
 oo 5 (.load1 (.t 1)) ::
oo 6 (.len (.t 5)) ::
oo 7 (.mv z0) :: [])) (.block 0 (.loop (.seq (.reg (
 oo 8 (.int .lss (.t 7) (.t 6)) :: [])) (.seq (.cond (.t 8) .skip (.exit 0)) (.seq (.block 1 (.seq (.reg (
 oo 9 (.ixsl 4 (.t 5) (.t 7)) ::
oo 10 (.loadn 4 (.t 9)) ::
oo 4 (.alloc [k0, k0, k0, k0] 327) ::
oz (.store 4 (.t 4) (.t 10)) :: [])) (.seq (.reg (
 om 11 0 ::
oo 12 (.loadn 4 (.t 4)) ::
⟨(some 13), none, (.call (.t 11) [(.t 12)])⟩ ::
oo 14 (.not (.t 13)) :: [])) (.cond (.t 14) .ret .skip)))) (.reg (
 oo 15 (.int .add (.t 7) z1) ::
om 7 15 :: []))))))))
def r361 : List ResultVar := []
theorem fun361 : Fun Tryz.prog 361 16 2 a361 r361 :=
  ⟨rfl, Tryz.f361, _, rfl, rfl, rfl, by decide, rfl, rfl, rfl⟩
noncomputable def a396 : ACode := (.seq (.reg (
 oo 2 (.mv (.c (Value.bool false))) :: [])) (.seq (.reg (
 om 3 0 ::
om 4 0 ::
oo 5 (.int .neq (.t 3) (.t 4)) ::
om 2 5 :: [])) .ret))
def r396 : List ResultVar := [.tmp 2]
theorem fun396 : Fun Tryz.prog 396 6 1 a396 r396 :=
  ⟨rfl, Tryz.f396, _, rfl, rfl, rfl, by decide, rfl, rfl, rfl⟩
end AE.Tryz
