/- Made by genx.py: the functions that may come to many ends, compiled for AEDX.FunX. -/
import Derived.Test.YtndkjpkadfpflaaGreatTopCode
import Derived.Test.YtndkjpkadfpflaaGreatAEDX
set_option linter.unusedVariables false
set_option linter.unusedSimpArgs false
set_option linter.unusedSectionVars false
namespace AE.Tryz
open Go AE Go.Proofs
def nds : List Nat := [3, 4, 5, 6, 8, 20, 37, 86, 87, 88, 89, 90, 140, 145, 171, 174]
set_option maxRecDepth 1000000
set_option maxHeartbeats 4000000
noncomputable def x8 : ACode := (.seq (.reg (
 oo 0 (.mv (.c (Value.bool false))) :: [])) (.seq (.reg (
 oc 1 35 [] ::
om 2 1 ::
ocg 3 2 true 36 [] ::
oo 4 (.pick (.t 2) (.t 3) (.c (Value.bool false))) ::
om 5 4 ::
ocg 6 5 true 37 [] ::
oo 7 (.pick (.t 5) (.t 6) (.c (Value.bool false))) ::
om 0 7 :: [])) .ret))
noncomputable def x37 : ACode := (.seq (.reg (
 oo 0 (.mv (.c (Value.bool false))) :: [])) (.seq (.reg (
 oc 16 84 [] ::
oo 1 (.alloc [k0, Value.slice none 0 0] 142) ::
oz (.store 2 (.t 1) (.t 16)) :: [])) (.seq (.reg (
 oo 18 (.loadn 2 (.t 1)) ::
oo 19 (.bslice [k0, k0, k0] [(0, 1, (.c (Value.int .i64 4))), (1, 1, (.c (Value.int .i64 7))), (2, 1, (.c (Value.int .i64 5)))] 3 2) ::
oc 20 85 [(.t 18), (.t 19)] ::
om 17 20 ::
oo 21 (.extract (.t 17) 0) ::
oo 22 (.extract (.t 17) 1) ::
om 2 21 ::
om 3 22 :: [])) (.seq (.reg (
 oo 24 (.loadn 2 (.t 1)) ::
oc 25 86 [(.t 24)] ::
om 23 25 ::
oo 26 (.extract (.t 23) 0) ::
oo 27 (.extract (.t 23) 1) ::
om 4 26 ::
om 5 27 :: [])) (.seq (.reg (
 oo 29 (.loadn 2 (.t 1)) ::
oo 30 (.bslice [k0, k0, k0] [(0, 1, z1), (1, 1, z0), (2, 1, (.c (Value.int .i64 (-1))))] 3 2) ::
oc 31 87 [(.t 29), (.t 30)] ::
om 28 31 ::
oo 32 (.extract (.t 28) 0) ::
oo 33 (.extract (.t 28) 1) ::
oo 6 (.alloc [Value.slice none 0 0, k0] 148) ::
oz (.store 2 (.t 6) (.t 32)) ::
om 7 33 :: [])) (.seq (.reg (
 oo 35 (.loadn 2 (.t 1)) ::
oo 36 (.bslice [k0, k0, k0] [(0, 1, z1), (1, 1, z0), (2, 1, z0)] 3 2) ::
oc 37 88 [(.t 35), (.t 36)] ::
om 34 37 ::
oo 38 (.extract (.t 34) 0) ::
oo 39 (.extract (.t 34) 1) ::
om 8 38 ::
om 9 39 :: [])) (.seq (.reg (
 oo 41 (.loadn 2 (.t 1)) ::
oo 42 (.bslice [k0, k0] [(0, 1, (.c (Value.int .i64 11))), (1, 1, (.c (Value.int .i64 12)))] 2 2) ::
oo 43 (.bslice [k0, k0, k0] [(0, 1, z1), (1, 1, z0), (2, 1, (.c (Value.int .i64 (-1))))] 3 2) ::
oc 44 89 [(.t 41), (.t 42), (.t 43)] ::
om 40 44 ::
oo 45 (.extract (.t 40) 0) ::
oo 46 (.extract (.t 40) 1) ::
oo 10 (.alloc [k0, k0] 27) ::
oz (.store 2 (.t 10) (.t 45)) ::
om 11 46 :: [])) (.seq (.reg (
 oo 48 (.loadn 2 (.t 1)) ::
oo 49 (.bslice [k0, k0] [(0, 1, (.c (Value.int .i64 11))), (1, 1, (.c (Value.int .i64 12)))] 2 2) ::
oo 50 (.bslice [k0, k0, k0] [(0, 1, z1), (1, 1, z0), (2, 1, z0)] 3 2) ::
oc 51 89 [(.t 48), (.t 49), (.t 50)] ::
om 47 51 ::
oo 52 (.extract (.t 47) 0) ::
oo 53 (.extract (.t 47) 1) ::
oo 12 (.alloc [k0, k0] 27) ::
oz (.store 2 (.t 12) (.t 52)) ::
om 13 53 :: [])) (.seq (.reg (
 oo 54 (.loadn 2 (.t 1)) ::
oo 55 (.bslice [k0, k0, k0] [(0, 1, z1), (1, 1, (.c (Value.int .i64 2))), (2, 1, z1)] 3 2) ::
oo 56 (.bslice [k0, k0, k0] [(0, 1, z1), (1, 1, z0), (2, 1, z0)] 3 2) ::
oo 57 (.bslice [Value.slice none 0 0] [(0, 1, (.t 56))] 1 38) ::
oc 58 90 [(.t 54), (.t 55), (.t 57)] ::
om 14 58 :: [])) (.seq (.reg (
 oo 59 (.loadn 2 (.t 1)) ::
oo 60 (.bslice [k0, k0, k0] [(0, 1, z1), (1, 1, z1), (2, 1, z1)] 3 2) ::
oo 61 (.bslice [k0, k0, k0] [(0, 1, z1), (1, 1, z0), (2, 1, z0)] 3 2) ::
oo 62 (.bslice [Value.slice none 0 0] [(0, 1, (.t 61))] 1 38) ::
oc 63 90 [(.t 59), (.t 60), (.t 62)] ::
om 15 63 :: [])) (.seq (.seq (.reg (
 om 64 3 ::
oo 65 (.int .neq (.t 64) z0) ::
om 66 65 ::
og 67 66 false (.mv (.t 5)) ::
og 68 66 false (.int .neq (.t 67) z0) ::
oo 69 (.pick (.t 66) (.c (Value.bool true)) (.t 68)) ::
om 70 69 ::
og 71 70 false (.mv (.t 7)) ::
og 72 70 false (.int .neq (.t 71) z0) ::
oo 73 (.pick (.t 70) (.c (Value.bool true)) (.t 72)) ::
om 74 73 ::
og 75 74 false (.mv (.t 9)) ::
og 76 74 false (.int .neq (.t 75) z0) ::
oo 77 (.pick (.t 74) (.c (Value.bool true)) (.t 76)) ::
om 78 77 ::
og 79 78 false (.mv (.t 11)) ::
og 80 78 false (.int .neq (.t 79) z0) ::
oo 81 (.pick (.t 78) (.c (Value.bool true)) (.t 80)) ::
om 82 81 ::
og 83 82 false (.mv (.t 13)) ::
og 84 82 false (.int .neq (.t 83) (.c (Value.int .i64 5))) ::
oo 85 (.pick (.t 82) (.c (Value.bool true)) (.t 84)) ::
om 86 85 ::
og 87 86 false (.mv (.t 14)) ::
og 88 86 false (.int .neq (.t 87) z0) ::
oo 89 (.pick (.t 86) (.c (Value.bool true)) (.t 88)) ::
om 90 89 ::
og 91 90 false (.mv (.t 15)) ::
og 92 90 false (.int .neq (.t 91) (.c (Value.int .i64 21))) ::
oo 93 (.pick (.t 90) (.c (Value.bool true)) (.t 92)) ::
om 94 93 ::
og 95 94 false (.mv (.t 2)) ::
og 96 94 false (.bslice [k0, k0] [(0, 1, (.c (Value.int .i64 11))), (1, 1, (.c (Value.int .i64 12)))] 2 2) ::
ocg 97 94 false 91 [(.t 95), (.t 96)] ::
og 98 94 false (.not (.t 97)) ::
oo 99 (.pick (.t 94) (.c (Value.bool true)) (.t 98)) ::
om 100 99 ::
og 101 100 false (.mv (.t 4)) ::
og 102 100 false (.int .neq (.t 101) (.c (Value.int .i64 2))) ::
oo 103 (.pick (.t 100) (.c (Value.bool true)) (.t 102)) ::
om 104 103 ::
og 105 104 false (.loadn 2 (.t 10)) ::
og 106 104 false (.build [k0, k0] [(0, 1, (.c (Value.int .i64 (-1)))), (1, 1, z1)]) ::
og 107 104 false (.pure (rawOp Tryz.f37 10 43)) ::
oo 108 (.pick (.t 104) (.c (Value.bool true)) (.t 107)) :: [])) (.cond (.t 108) (.seq (.reg (
 oo 0 (.mv (.c (Value.bool false))) :: [])) .ret) .skip)) (.seq (.reg (
 oo 109 (.loadn 2 (.t 1)) ::
oo 110 (.bslice [k0, k0, k0] [(0, 1, z1), (1, 1, z0), (2, 1, (.c (Value.int .i64 (-1))))] 3 2) ::
oo 111 (.loadn 2 (.t 6)) ::
oc 112 92 [(.t 109), (.t 110), (.t 111)] ::
oo 113 (.int .eql (.t 112) z0) ::
om 114 113 ::
og 115 114 true (.loadn 2 (.t 1)) ::
og 116 114 true (.bslice [k0, k0, k0] [(0, 1, z1), (1, 1, z0), (2, 1, z0)] 3 2) ::
og 117 114 true (.mv (.t 8)) ::
ocg 118 114 true 93 [(.t 115), (.t 116), (.t 117)] ::
og 119 114 true (.int .eql (.t 118) z0) ::
oo 120 (.pick (.t 114) (.t 119) (.c (Value.bool false))) ::
om 121 120 ::
og 122 121 true (.loadn 2 (.t 1)) ::
og 123 121 true (.bslice [k0, k0, k0] [(0, 1, (.c (Value.int .i64 2))), (1, 1, (.c (Value.int .i64 2))), (2, 1, z0)] 3 2) ::
og 124 121 true (.bslice [k0, k0] [(0, 1, (.c (Value.int .i64 4))), (1, 1, z0)] 2 2) ::
og 125 121 true (.build [Value.slice none 0 0, k0] [(0, 1, (.t 124)), (1, 1, (.c (Value.int .i64 2)))]) ::
ocg 126 121 true 94 [(.t 122), (.t 123), (.t 125)] ::
og 127 121 true (.int .eql (.t 126) z0) ::
oo 128 (.pick (.t 121) (.t 127) (.c (Value.bool false))) ::
om 129 128 ::
og 130 129 true (.loadn 2 (.t 1)) ::
og 131 129 true (.bslice [k0, k0, k0] [(0, 1, z1), (1, 1, z0), (2, 1, z0)] 3 2) ::
og 132 129 true (.bslice [k0, k0, k0] [(0, 1, z1), (1, 1, (.c (Value.int .i64 (-1)))), (2, 1, z1)] 3 2) ::
ocg 133 129 true 95 [(.t 130), (.t 131), (.t 132)] ::
og 134 129 true (.int .eql (.t 133) z0) ::
oo 135 (.pick (.t 129) (.t 134) (.c (Value.bool false))) ::
om 0 135 :: [])) .ret))))))))))))
def y37 : List ResultVar := [.tmp 0]
theorem funx37 : FunX Tryz.prog 37 136 0 x37 y37 :=
  ⟨rfl, nds, Tryz.f37, _, rfl, rfl, rfl, by decide, rfl, rfl, rfl⟩
noncomputable def x86 : ACode := (.seq (.reg (
 oo 1 (.box (.t 0) 142) ::
oo 2 (.mv z0) ::
oo 3 (.mv z0) :: [])) (.seq (.seq (.reg (
 oo 7 (.loadn 2 (.t 1)) ::
oc 8 136 [(.t 7)] ::
om 4 8 :: [])) (.seq (.reg (
 om 9 4 ::
oo 10 (.int .neq (.t 9) z0) :: [])) (.cond (.t 10) (.seq (.reg (
 om 11 4 ::
oo 2 (.mv z0) ::
om 3 11 :: [])) .ret) .skip))) (.seq (.seq (.dreg (
 oo 13 (.loadn 2 (.t 1)) ::
oo 14 (.faddr 1 (.t 1)) ::
oo 15 (.load1 (.t 14)) ::
oo 16 (.len (.t 15)) ::
oo 17 (.mkslice [k0] 8 2 (.t 16) (.t 16)) :: []) []) (.seq (.reg (
 oc 18 140 [(.t 13), (.t 17)] :: [])) (.dreg (
 om 13 13 ::
om 14 14 ::
om 15 15 ::
om 16 16 ::
om 17 17 ::
om 18 18 ::
om 12 18 ::
oo 19 (.extract (.t 12) 0) ::
oo 20 (.extract (.t 12) 1) ::
om 5 19 ::
om 6 20 :: []) []))) (.seq (.reg (
 om 21 5 ::
oo 22 (.nilck (.t 21)) ::
oo 23 (.faddr 1 (.t 22)) ::
oo 24 (.load1 (.t 23)) ::
oo 25 (.lenmap (.t 24)) ::
om 2 25 ::
oo 3 (.mv z0) :: [])) .ret))))
def y86 : List ResultVar := [.tmp 2, .tmp 3]
theorem funx86 : FunX Tryz.prog 86 26 1 x86 y86 :=
  ⟨rfl, nds, Tryz.f86, _, rfl, rfl, rfl, by decide, rfl, rfl, rfl⟩
noncomputable def x87 : ACode := (.seq (.reg (
 oo 2 (.box (.t 0) 142) ::
oo 4 (.alloc [Value.slice none 0 0, k0] 148) ::
oo 5 (.mv z0) :: [])) (.seq (.seq (.reg (
 oo 12 (.loadn 2 (.t 2)) ::
om 13 1 ::
oc 14 141 [(.t 12), (.t 13)] ::
om 6 14 :: [])) (.seq (.reg (
 om 15 6 ::
oo 16 (.int .neq (.t 15) z0) :: [])) (.cond (.t 16) (.seq (.reg (
 oo 17 (.build [Value.slice none 0 0, k0] []) ::
om 18 6 ::
oz (.store 2 (.t 4) (.t 17)) ::
om 5 18 :: [])) .ret) .skip))) (.seq (.seq (.dreg (
 oo 20 (.loadn 2 (.t 2)) ::
oo 21 (.faddr 1 (.t 2)) ::
oo 22 (.load1 (.t 21)) ::
oo 23 (.len (.t 22)) ::
oo 24 (.mkslice [k0] 8 2 (.t 23) (.t 23)) :: []) []) (.seq (.reg (
 oc 25 140 [(.t 20), (.t 24)] :: [])) (.dreg (
 om 20 20 ::
om 21 21 ::
om 22 22 ::
om 23 23 ::
om 24 24 ::
om 25 25 ::
om 19 25 ::
oo 26 (.extract (.t 19) 0) ::
oo 27 (.extract (.t 19) 1) ::
om 7 26 ::
om 8 27 :: []) []))) (.seq (.reg (
 om 28 7 ::
om 29 1 ::
oc 30 143 [(.t 29)] ::
oc 31 142 [(.t 28), (.t 30)] ::
oo 9 (.alloc [k0, k0, k0, k0, k0, k0, k0, k0, k0, k0, k0, k0, k0, k0, k0] 228) ::
oz (.store 15 (.t 9) (.t 31)) :: [])) (.seq (.seq (.reg (
 oo 32 (.faddr 0 (.t 9)) ::
oo 33 (.faddr 0 (.t 32)) ::
oo 34 (.loadn 5 (.t 33)) ::
oo 35 (.build [k0, k0, k0, k0, k0] []) ::
oo 36 (.pure (rawOp Tryz.f87 6 4)) :: [])) (.cond (.t 36) (.seq (.reg (
 oo 37 (.build [Value.slice none 0 0, k0] []) ::
oz (.store 2 (.t 4) (.t 37)) ::
oo 5 (.mv (.c (Value.int .i64 5))) :: [])) .ret) .skip)) (.seq (.seq (.reg (
 oo 38 (.faddr 14 (.t 9)) ::
oo 39 (.load1 (.t 38)) ::
oo 40 (.int .lss (.t 39) z0) :: [])) (.cond (.t 40) (.reg (
 oo 41 (.loadn 15 (.t 9)) ::
oo 42 (.loadn 15 (.t 9)) ::
oc 43 144 [(.t 41), (.t 42), z0, (.c (Value.int .i64 (-1)))] ::
oz (.store 15 (.t 9) (.t 43)) :: [])) .skip)) (.seq (.reg (
 oo 44 (.faddr 14 (.t 9)) ::
oo 45 (.load1 (.t 44)) ::
oo 46 (.build [Value.slice none 0 0, k0] [(1, 1, (.t 45))]) ::
oo 10 (.alloc [Value.slice none 0 0, k0] 148) ::
oz (.store 2 (.t 10) (.t 46)) :: [])) (.seq (.seq (.reg (
 oo 47 (.faddr 1 (.t 2)) ::
oo 48 (.load1 (.t 47)) ::
oo 49 (.len (.t 48)) ::
oo 50 (.mv z0) :: [])) (.block 0 (.loop (.seq (.reg (
 oo 51 (.int .lss (.t 50) (.t 49)) :: [])) (.seq (.cond (.t 51) .skip (.exit 0)) (.seq (.block 1 (.seq (.reg (
 om 52 50 ::
om 11 52 :: [])) (.dreg (
 oo 53 (.faddr 0 (.t 10)) ::
oo 54 (.load1 (.t 53)) ::
om 55 11 ::
oo 56 (.faddr 6 (.t 9)) ::
oo 57 (.ixarr 8 1 (.t 56) (.t 55)) ::
oo 58 (.load1 (.t 57)) ::
oo 59 (.neg (.t 58)) ::
oo 60 (.bslice [k0] [(0, 1, (.t 59))] 1 2) ::
oo 61 (.append 2 1 8 (.t 54) (.t 60)) ::
oo 62 (.faddr 0 (.t 10)) ::
oz (.store 1 (.t 62) (.t 61)) :: []) []))) (.reg (
 oo 63 (.int .add (.t 50) z1) ::
om 50 63 :: [])))))))) (.seq (.reg (
 oo 64 (.loadn 2 (.t 10)) ::
oz (.store 2 (.t 4) (.t 64)) ::
oo 5 (.mv z0) :: [])) .ret)))))))))
def y87 : List ResultVar := [.cell 4 148, .tmp 5]
theorem funx87 : FunX Tryz.prog 87 65 2 x87 y87 :=
  ⟨rfl, nds, Tryz.f87, _, rfl, rfl, rfl, by decide, rfl, rfl, rfl⟩
noncomputable def x88 : ACode := (.seq (.reg (
 oo 2 (.box (.t 0) 142) ::
oo 3 (.box (.t 1) 38) ::
oo 4 (.alloc [Value.slice none 0 0] 38) ::
oo 5 (.alloc [k0] 28) :: [])) (.seq (.seq (.reg (
 oo 10 (.loadn 2 (.t 2)) ::
oo 11 (.load1 (.t 3)) ::
oc 12 141 [(.t 10), (.t 11)] ::
om 6 12 :: [])) (.seq (.reg (
 om 13 6 ::
oo 14 (.int .neq (.t 13) z0) :: [])) (.cond (.t 14) (.seq (.reg (
 om 15 6 ::
oz (.store 1 (.t 4) (.c (Value.slice none 0 0))) ::
oz (.store 1 (.t 5) (.t 15)) :: [])) .ret) .skip))) (.seq (.seq (.dreg (
 oo 17 (.loadn 2 (.t 2)) ::
oo 18 (.faddr 1 (.t 2)) ::
oo 19 (.load1 (.t 18)) ::
oo 20 (.len (.t 19)) ::
oo 21 (.mkslice [k0] 8 2 (.t 20) (.t 20)) :: []) []) (.seq (.reg (
 oc 22 140 [(.t 17), (.t 21)] :: [])) (.dreg (
 om 17 17 ::
om 18 18 ::
om 19 19 ::
om 20 20 ::
om 21 21 ::
om 22 22 ::
om 16 22 ::
oo 23 (.extract (.t 16) 0) ::
oo 24 (.extract (.t 16) 1) ::
om 7 23 ::
om 8 24 :: []) []))) (.seq (.seq (.reg (
 om 25 7 ::
oc 26 145 [(.t 25)] :: [])) (.block 0 (.range (.t 26) [27] 34 (rfAt Tryz.f88 0).1 (rfAt Tryz.f88 0).2 .skip .skip))) (.seq (.reg (
 oz (.store 1 (.t 4) (.c (Value.slice none 0 0))) ::
oz (.store 1 (.t 5) (.c (Value.int .i64 21))) :: [])) .ret)))))
def y88 : List ResultVar := [.cell 4 38, .cell 5 28]
theorem funx88 : FunX Tryz.prog 88 34 2 x88 y88 :=
  ⟨rfl, nds, Tryz.f88, _, rfl, rfl, rfl, by decide, rfl, rfl, rfl⟩
noncomputable def x89 : ACode := (.seq (.reg (
 oo 3 (.box (.t 0) 142) ::
oo 6 (.alloc [k0, k0] 27) ::
oo 7 (.mv z0) :: [])) (.seq (.seq (.reg (
 oo 15 (.loadn 2 (.t 3)) ::
om 16 2 ::
oc 17 141 [(.t 15), (.t 16)] ::
om 8 17 :: [])) (.seq (.reg (
 om 18 8 ::
oo 19 (.int .neq (.t 18) z0) :: [])) (.cond (.t 19) (.seq (.reg (
 oo 20 (.build [k0, k0] []) ::
om 21 8 ::
oz (.store 2 (.t 6) (.t 20)) ::
om 7 21 :: [])) .ret) .skip))) (.seq (.block 0 (.seq (.reg (
 om 23 1 ::
oo 24 (.len (.t 23)) ::
oo 25 (.faddr 1 (.t 3)) ::
oo 26 (.load1 (.t 25)) ::
oo 27 (.len (.t 26)) ::
oo 28 (.int .neq (.t 24) (.t 27)) ::
om 22 28 :: [])) (.cond (.t 22) (.seq (.reg (
 oo 29 (.build [k0, k0] []) ::
oz (.store 2 (.t 6) (.t 29)) ::
oo 7 (.mv (.c (Value.int .i64 15))) :: [])) .ret) (.seq (.reg (
 om 31 1 ::
oc 32 137 [(.c (Value.int .i64 10000000)), (.t 31)] ::
oo 33 (.not (.t 32)) ::
om 30 33 :: [])) (.cond (.t 30) (.seq (.reg (
 oo 34 (.build [k0, k0] []) ::
oz (.store 2 (.t 6) (.t 34)) ::
oo 7 (.mv (.c (Value.int .i64 3))) :: [])) .ret) .skip))))) (.seq (.reg (
 oo 36 (.loadn 2 (.t 3)) ::
om 37 1 ::
oc 38 140 [(.t 36), (.t 37)] ::
om 35 38 ::
oo 39 (.extract (.t 35) 0) ::
oo 40 (.extract (.t 35) 1) ::
om 9 39 ::
om 10 40 :: [])) (.seq (.seq (.reg (
 om 41 10 ::
oo 42 (.not (.t 41)) :: [])) (.cond (.t 42) (.seq (.reg (
 oo 43 (.build [k0, k0] []) ::
oz (.store 2 (.t 6) (.t 43)) ::
oo 7 (.mv (.c (Value.int .i64 20))) :: [])) .ret) .skip)) (.seq (.reg (
 om 44 9 ::
om 45 2 ::
oc 46 143 [(.t 45)] ::
oc 47 142 [(.t 44), (.t 46)] ::
oo 11 (.alloc [k0, k0, k0, k0, k0, k0, k0, k0, k0, k0, k0, k0, k0, k0, k0] 228) ::
oz (.store 15 (.t 11) (.t 47)) :: [])) (.seq (.seq (.reg (
 oo 48 (.faddr 0 (.t 11)) ::
oo 49 (.faddr 0 (.t 48)) ::
oo 50 (.loadn 5 (.t 49)) ::
oo 51 (.build [k0, k0, k0, k0, k0] []) ::
oo 52 (.pure (rawOp Tryz.f89 12 4)) :: [])) (.cond (.t 52) (.seq (.reg (
 oo 53 (.build [k0, k0] []) ::
oz (.store 2 (.t 6) (.t 53)) ::
oo 7 (.mv (.c (Value.int .i64 5))) :: [])) .ret) .skip)) (.seq (.dreg (
 oo 54 (.faddr 0 (.t 11)) ::
oo 55 (.faddr 5 (.t 54)) ::
oo 56 (.load1 (.t 55)) ::
oo 57 (.neg (.t 56)) ::
oo 58 (.faddr 14 (.t 11)) ::
oo 59 (.load1 (.t 58)) ::
om 12 57 ::
om 13 59 :: []) []) (.seq (.seq (.reg (
 om 60 13 ::
oo 61 (.int .lss (.t 60) z0) :: [])) (.cond (.t 61) (.reg (
 om 62 12 ::
oo 63 (.neg (.t 62)) ::
om 64 13 ::
oo 65 (.neg (.t 64)) ::
om 12 63 ::
om 13 65 :: [])) .skip)) (.seq (.reg (
 om 66 12 ::
om 67 13 ::
oo 68 (.bslice [k0, k0] [(0, 1, (.t 66)), (1, 1, (.t 67))] 2 2) ::
oc 69 146 [(.t 68)] ::
om 14 69 :: [])) (.seq (.dreg (
 om 70 12 ::
om 71 14 ::
oo 72 (.idiv true (.t 70) (.t 71)) ::
om 73 13 ::
om 74 14 ::
oo 75 (.idiv true (.t 73) (.t 74)) ::
oo 76 (.build [k0, k0] [(0, 1, (.t 72)), (1, 1, (.t 75))]) ::
oz (.store 2 (.t 6) (.t 76)) ::
oo 7 (.mv z0) :: []) []) .ret)))))))))))
def y89 : List ResultVar := [.cell 6 27, .tmp 7]
theorem funx89 : FunX Tryz.prog 89 77 3 x89 y89 :=
  ⟨rfl, nds, Tryz.f89, _, rfl, rfl, rfl, by decide, rfl, rfl, rfl⟩
noncomputable def x90 : ACode := (.seq (.reg (
 oo 3 (.box (.t 0) 142) ::
oo 6 (.mv z0) :: [])) (.seq (.seq (.reg (
 oo 19 (.loadn 2 (.t 3)) ::
om 20 1 ::
oc 21 141 [(.t 19), (.t 20)] ::
om 7 21 :: [])) (.seq (.reg (
 om 22 7 ::
oo 23 (.int .neq (.t 22) z0) :: [])) (.cond (.t 23) (.seq (.reg (
 om 24 7 ::
om 6 24 :: [])) .ret) .skip))) (.seq (.block 0 (.seq (.reg (
 oo 26 (.faddr 1 (.t 3)) ::
oo 27 (.load1 (.t 26)) ::
oo 28 (.len (.t 27)) ::
oo 29 (.int .eql (.t 28) (.c (Value.int .i64 8))) ::
om 25 29 :: [])) (.cond (.t 25) (.seq (.reg (
 oo 6 (.mv (.c (Value.int .i64 10))) :: [])) .ret) (.seq (.reg (
 om 31 2 ::
oo 32 (.len (.t 31)) ::
oo 33 (.int .gtr (.t 32) (.c (Value.int .i64 4096))) ::
om 30 33 :: [])) (.cond (.t 30) (.seq (.reg (
 oo 6 (.mv (.c (Value.int .i64 6))) :: [])) .ret) .skip))))) (.seq (.seq (.reg (
 om 34 2 ::
oo 35 (.len (.t 34)) ::
oo 36 (.mv z0) :: [])) (.block 1 (.loop (.seq (.reg (
 oo 37 (.int .lss (.t 36) (.t 35)) :: [])) (.seq (.cond (.t 37) .skip (.exit 1)) (.seq (.block 2 (.seq (.reg (
 oo 38 (.ixsl 1 (.t 34) (.t 36)) ::
oo 39 (.load1 (.t 38)) ::
om 9 39 :: [])) (.seq (.reg (
 oo 40 (.loadn 2 (.t 3)) ::
om 41 9 ::
oc 42 147 [(.t 40), (.t 41)] ::
om 10 42 :: [])) (.seq (.reg (
 om 43 10 ::
oo 44 (.int .neq (.t 43) z0) :: [])) (.cond (.t 44) (.seq (.reg (
 om 45 10 ::
om 6 45 :: [])) .ret) .skip))))) (.reg (
 oo 46 (.int .add (.t 36) z1) ::
om 36 46 :: [])))))))) (.seq (.dreg (
 oo 47 (.faddr 0 (.t 3)) ::
oo 48 (.load1 (.t 47)) ::
oo 49 (.faddr 1 (.t 3)) ::
oo 50 (.load1 (.t 49)) ::
oo 51 (.faddr 1 (.t 3)) ::
oo 52 (.load1 (.t 51)) ::
oo 53 (.len (.t 52)) ::
oo 54 (.faddr 1 (.t 3)) ::
oo 55 (.load1 (.t 54)) ::
oo 56 (.len (.t 55)) ::
oo 57 (.slsl 1 (.t 50) none (some (.t 53)) (some (.t 56))) ::
om 58 1 ::
oo 59 (.bslice [Value.slice none 0 0] [(0, 1, (.t 58))] 1 38) ::
oo 60 (.append 38 1 24 (.t 57) (.t 59)) ::
oo 61 (.build [k0, Value.slice none 0 0] [(0, 1, (.t 48)), (1, 1, (.t 60))]) ::
oo 11 (.alloc [k0, Value.slice none 0 0] 142) ::
oz (.store 2 (.t 11) (.t 61)) :: []) [((.t 47), (.t 57))]) (.seq (.seq (.dreg (
 oo 63 (.loadn 2 (.t 3)) ::
oo 64 (.faddr 1 (.t 3)) ::
oo 65 (.load1 (.t 64)) ::
oo 66 (.len (.t 65)) ::
oo 67 (.mkslice [k0] 8 2 (.t 66) (.t 66)) :: []) []) (.seq (.reg (
 oc 68 140 [(.t 63), (.t 67)] :: [])) (.dreg (
 om 63 63 ::
om 64 64 ::
om 65 65 ::
om 66 66 ::
om 67 67 ::
om 68 68 ::
om 62 68 ::
oo 69 (.extract (.t 62) 0) ::
oo 70 (.extract (.t 62) 1) ::
om 12 69 ::
om 13 70 :: []) []))) (.seq (.seq (.dreg (
 oo 72 (.loadn 2 (.t 11)) ::
oo 73 (.faddr 1 (.t 11)) ::
oo 74 (.load1 (.t 73)) ::
oo 75 (.len (.t 74)) ::
oo 76 (.mkslice [k0] 8 2 (.t 75) (.t 75)) :: []) []) (.seq (.reg (
 oc 77 140 [(.t 72), (.t 76)] :: [])) (.dreg (
 om 72 72 ::
om 73 73 ::
om 74 74 ::
om 75 75 ::
om 76 76 ::
om 77 77 ::
om 71 77 ::
oo 78 (.extract (.t 71) 0) ::
oo 79 (.extract (.t 71) 1) ::
om 14 78 ::
om 15 79 :: []) []))) (.seq (.seq (.reg (
 om 80 2 ::
oo 81 (.len (.t 80)) ::
oo 82 (.mv z0) :: [])) (.block 3 (.loop (.seq (.reg (
 oo 83 (.int .lss (.t 82) (.t 81)) :: [])) (.seq (.cond (.t 83) .skip (.exit 3)) (.seq (.block 4 (.seq (.reg (
 oo 84 (.ixsl 1 (.t 80) (.t 82)) ::
oo 85 (.load1 (.t 84)) ::
om 17 85 :: [])) (.seq (.reg (
 om 86 17 ::
oc 87 143 [(.t 86)] ::
oo 18 (.alloc [k0, k0, k0, k0, k0, k0, k0, k0, k0, k0, k0, k0, k0, k0, k0] 228) ::
oz (.store 15 (.t 18) (.t 87)) :: [])) (.seq (.reg (
 om 88 12 ::
oo 89 (.loadn 15 (.t 18)) ::
oc 90 142 [(.t 88), (.t 89)] ::
oo 91 (.fieldn 0 6 (.t 90)) ::
oo 92 (.fieldn 0 5 (.t 91)) ::
oo 93 (.build [k0, k0, k0, k0, k0] []) ::
oo 94 (.pure (rawOp Tryz.f90 22 6)) ::
om 95 94 ::
og 96 95 true (.mv (.t 14)) ::
og 97 95 true (.loadn 15 (.t 18)) ::
ocg 98 95 true 142 [(.t 96), (.t 97)] ::
og 99 95 true (.fieldn 0 6 (.t 98)) ::
og 100 95 true (.fieldn 0 5 (.t 99)) ::
og 101 95 true (.build [k0, k0, k0, k0, k0] []) ::
og 102 95 true (.pure (rawOp Tryz.f90 22 14)) ::
oo 103 (.pick (.t 95) (.t 102) (.c (Value.bool false))) :: [])) (.cond (.t 103) (.seq (.reg (
 oo 6 (.mv (.c (Value.int .i64 21))) :: [])) .ret) .skip))))) (.reg (
 oo 104 (.int .add (.t 82) z1) ::
om 82 104 :: [])))))))) (.seq (.reg (
 oo 6 (.mv z0) :: [])) .ret)))))))))
def y90 : List ResultVar := [.tmp 6]
theorem funx90 : FunX Tryz.prog 90 105 3 x90 y90 :=
  ⟨rfl, nds, Tryz.f90, _, rfl, rfl, rfl, by decide, rfl, rfl, rfl⟩
noncomputable def x140 : ACode := (.seq (.reg (
 oo 2 (.box (.t 0) 142) ::
oo 4 (.mv (.c (Value.pointer none))) ::
oo 5 (.mv (.c (Value.bool false))) :: [])) (.seq (.reg (
 oo 13 (.faddr 0 (.t 2)) ::
oo 14 (.load1 (.t 13)) ::
oo 15 (.mkmap) ::
oo 16 (.build [k0, Value.map none] [(0, 1, (.t 14)), (1, 1, (.t 15))]) ::
oo 17 (.box (.t 16) 222) ::
oo 6 (.alloc [Value.pointer none] 217) ::
oz (.store 1 (.t 6) (.t 17)) :: [])) (.seq (.reg (
 oo 7 (.mv (.c (Value.bool true))) :: [])) (.seq (.reg (
 oo 18 (.mkfn (Fn.func 171) [] [(.t 6)]) ::
om 8 18 :: [])) (.seq (.seq (.reg (
 oo 19 (.faddr 1 (.t 2)) ::
oo 20 (.load1 (.t 19)) ::
oo 21 (.len (.t 20)) ::
oo 22 (.mv z0) :: [])) (.block 0 (.loop (.seq (.reg (
 oo 23 (.int .lss (.t 22) (.t 21)) :: [])) (.seq (.cond (.t 23) .skip (.exit 0)) (.seq (.block 1 (.seq (.reg (
 om 24 22 ::
oo 25 (.ixsl 1 (.t 20) (.t 22)) ::
oo 26 (.load1 (.t 25)) ::
om 9 24 ::
om 10 26 :: [])) (.seq (.dreg (
 om 27 10 ::
oc 28 139 [(.t 27)] ::
om 29 1 ::
om 30 9 ::
oo 31 (.ixsl 1 (.t 29) (.t 30)) ::
oo 32 (.load1 (.t 31)) ::
oo 33 (.build [k0, k0, k0, k0, k0, k0] [(0, 5, (.t 28)), (5, 1, (.t 32))]) ::
oo 34 (.build [k0, k0, k0, k0, k0, k0, k0, k0, k0, k0, k0, k0, k0, k0, k0] [(0, 6, (.t 33))]) ::
oo 11 (.alloc [k0, k0, k0, k0, k0, k0, k0, k0, k0, k0, k0, k0, k0, k0, k0] 228) ::
oz (.store 15 (.t 11) (.t 34)) :: []) []) (.seq (.reg (
 om 35 9 ::
oo 36 (.faddr 6 (.t 11)) ::
oo 37 (.ixarr 8 1 (.t 36) (.t 35)) ::
oz (.store 1 (.t 37) z1) :: [])) (.seq (.reg (
 oo 38 (.load1 (.t 6)) ::
oo 39 (.loadn 15 (.t 11)) ::
oc 40 142 [(.t 38), (.t 39)] ::
oz (.store 15 (.t 11) (.t 40)) :: [])) (.seq (.reg (
 oo 41 (.loadn 15 (.t 11)) ::
oc 42 173 [(.t 41)] ::
om 12 42 :: [])) (.seq (.seq (.reg (
 om 43 12 ::
oo 44 (.int .lss (.t 43) z0) :: [])) (.cond (.t 44) (.seq (.reg (
 om 45 7 ::
om 46 45 ::
og 47 46 true (.faddr 0 (.t 11)) ::
og 48 46 true (.loadn 6 (.t 47)) ::
og 49 46 true (.build [k0, k0, k0, k0, k0, k0] []) ::
og 50 46 true (.pure (rawOp Tryz.f140 12 5)) ::
oo 51 (.pick (.t 46) (.t 50) (.c (Value.bool false))) ::
om 7 51 :: [])) (.exit 1)) .skip)) (.seq (.reg (
 om 52 8 ::
oo 53 (.loadn 15 (.t 11)) ::
om 54 12 ::
⟨(some 55), none, (.call (.t 52) [(.t 53), (.t 54)])⟩ :: [])) (.dreg (
 oo 56 (.load1 (.t 6)) ::
oo 57 (.nilck (.t 56)) ::
oo 58 (.faddr 1 (.t 57)) ::
oo 59 (.load1 (.t 58)) ::
om 60 12 ::
oo 61 (.loadn 15 (.t 11)) ::
oz (.mapup 3 (.t 59) (.t 60) (.t 61)) :: []) []))))))))) (.reg (
 oo 62 (.int .add (.t 22) z1) ::
om 22 62 :: [])))))))) (.seq (.reg (
 oo 63 (.load1 (.t 6)) ::
om 64 7 ::
om 4 63 ::
om 5 64 :: [])) .ret))))))
def y140 : List ResultVar := [.tmp 4, .tmp 5]
theorem funx140 : FunX Tryz.prog 140 65 2 x140 y140 :=
  ⟨rfl, nds, Tryz.f140, _, rfl, rfl, rfl, by decide, rfl, rfl, rfl⟩
noncomputable def x145 : ACode := (.seq (.reg (
 oo 1 (.box (.t 0) 217) ::
oo 2 (.mv (.c (Value.nilFunc))) :: [])) (.seq (.reg (
 oo 3 (.mkfn (Fn.func 174) [] [(.t 1)]) ::
om 2 3 :: [])) .ret))
def y145 : List ResultVar := [.tmp 2]
theorem funx145 : FunX Tryz.prog 145 4 1 x145 y145 :=
  ⟨rfl, nds, Tryz.f145, _, rfl, rfl, rfl, by decide, rfl, rfl, rfl⟩
noncomputable def x171 : ACode := (.seq (.reg (
 oo 3 (.box (.t 0) 228) :: [])) (.seq (.reg (
 oo 7 (.load1 (.t 2)) ::
oo 8 (.nilck (.t 7)) ::
oo 9 (.faddr 1 (.t 8)) ::
oo 10 (.load1 (.t 9)) ::
oo 11 (.mrange (.t 10)) :: [])) (.block 0 (.loop (.seq (.next (.t 11) 12 13) (.seq (.cond (.t 13) .skip (.exit 0)) (.block 1 (.seq (.reg (
 oo 14 (.entry (.t 11)) ::
oo 15 (.extract (.t 14) 0) ::
oo 16 (.extract (.t 14) 1) ::
oo 6 (.alloc [k0, k0, k0, k0, k0, k0, k0, k0, k0, k0, k0, k0, k0, k0, k0] 228) ::
om 5 15 ::
oz (.store 15 (.t 6) (.t 16)) :: [])) (.seq (.reg (
 om 17 1 ::
oo 18 (.faddr 0 (.t 6)) ::
oo 19 (.faddr 0 (.t 18)) ::
oo 20 (.ixarr 5 1 (.t 19) (.t 17)) ::
oo 21 (.load1 (.t 20)) ::
oo 22 (.int .neq (.t 21) z0) :: [])) (.cond (.t 22) (.dreg (
 oo 23 (.load1 (.t 2)) ::
oo 24 (.nilck (.t 23)) ::
oo 25 (.faddr 1 (.t 24)) ::
oo 26 (.load1 (.t 25)) ::
om 27 5 ::
oo 28 (.loadn 15 (.t 6)) ::
oo 29 (.loadn 15 (.t 3)) ::
om 30 1 ::
oo 31 (.faddr 0 (.t 3)) ::
oo 32 (.faddr 0 (.t 31)) ::
oo 33 (.ixarr 5 1 (.t 32) (.t 30)) ::
oo 34 (.load1 (.t 33)) ::
om 35 1 ::
oo 36 (.faddr 0 (.t 6)) ::
oo 37 (.faddr 0 (.t 36)) ::
oo 38 (.ixarr 5 1 (.t 37) (.t 35)) ::
oo 39 (.load1 (.t 38)) ::
oo 40 (.neg (.t 39)) ::
oc 41 144 [(.t 28), (.t 29), (.t 34), (.t 40)] ::
oc 42 172 [(.t 41)] ::
oz (.mapup 3 (.t 26) (.t 27) (.t 42)) :: []) []) .skip))))))))))
def y171 : List ResultVar := []
theorem funx171 : FunX Tryz.prog 171 43 3 x171 y171 :=
  ⟨rfl, nds, Tryz.f171, _, rfl, rfl, rfl, by decide, rfl, rfl, rfl⟩
noncomputable def x174 : ACode := (.seq (.reg (
 oo 14 (.load1 (.t 1)) ::
oo 15 (.nilck (.t 14)) ::
oo 16 (.faddr 0 (.t 15)) ::
oo 17 (.load1 (.t 16)) ::
oo 18 (.mv z0) :: [])) (.block 0 (.loop (.seq (.reg (
 oo 19 (.int .lss (.t 18) (.t 17)) :: [])) (.seq (.cond (.t 19) .skip (.exit 0)) (.seq (.block 1 (.seq (.reg (
 om 20 18 ::
om 3 20 :: [])) (.seq (.seq (.reg (
 oo 22 (.load1 (.t 1)) ::
oo 23 (.nilck (.t 22)) ::
oo 24 (.faddr 1 (.t 23)) ::
oo 25 (.load1 (.t 24)) ::
om 26 3 ::
oo 27 (.lookup 3 (Value.agg #[k0, k0, k0, k0, k0, k0, k0, k0, k0, k0, k0, k0, k0, k0, k0]) true (.t 25) (.t 26)) ::
om 21 27 ::
oo 28 (.extract (.t 21) 0) ::
oo 29 (.extract (.t 21) 1) ::
oo 4 (.alloc [k0, k0, k0, k0, k0, k0, k0, k0, k0, k0, k0, k0, k0, k0, k0] 228) ::
oz (.store 15 (.t 4) (.t 28)) ::
om 5 29 :: [])) (.seq (.reg (
 om 30 5 :: [])) (.cond (.t 30) (.exit 1) .skip))) (.seq (.reg (
 oo 6 (.mv z1) :: [])) (.seq (.seq (.reg (
 oo 31 (.load1 (.t 1)) ::
oo 32 (.nilck (.t 31)) ::
oo 33 (.faddr 1 (.t 32)) ::
oo 34 (.load1 (.t 33)) ::
oo 35 (.mrange (.t 34)) :: [])) (.block 2 (.loop (.seq (.next (.t 35) 36 37) (.seq (.cond (.t 37) .skip (.exit 2)) (.block 3 (.seq (.reg (
 oo 38 (.entry (.t 35)) ::
oo 39 (.extract (.t 38) 1) ::
oo 8 (.alloc [k0, k0, k0, k0, k0, k0, k0, k0, k0, k0, k0, k0, k0, k0, k0] 228) ::
oz (.store 15 (.t 8) (.t 39)) :: [])) (.seq (.reg (
 oo 40 (.faddr 0 (.t 8)) ::
oo 41 (.faddr 0 (.t 40)) ::
oo 42 (.loadn 5 (.t 41)) ::
oo 43 (.mv z0) :: [])) (.block 4 (.loop (.seq (.reg (
 oo 44 (.int .lss (.t 43) (.c (Value.int .i64 5))) :: [])) (.seq (.cond (.t 44) .skip (.exit 4)) (.seq (.block 5 (.seq (.reg (
 om 45 43 ::
oo 46 (.ixv1 5 (.t 42) (.t 43)) ::
om 9 45 ::
om 10 46 :: [])) (.seq (.reg (
 om 47 10 ::
oo 48 (.int .neq (.t 47) z0) ::
om 49 48 ::
og 50 49 true (.mv (.t 9)) ::
og 51 49 true (.loadn 15 (.t 8)) ::
ocg 52 49 true 173 [(.t 51)] ::
og 53 49 true (.int .eql (.t 50) (.t 52)) ::
oo 54 (.pick (.t 49) (.t 53) (.c (Value.bool false))) :: [])) (.cond (.t 54) (.reg (
 om 55 6 ::
om 56 6 ::
om 57 10 ::
oo 58 (.bslice [k0, k0] [(0, 1, (.t 56)), (1, 1, (.t 57))] 2 2) ::
oc 59 146 [(.t 58)] ::
oo 60 (.idiv true (.t 55) (.t 59)) ::
om 61 10 ::
oo 62 (.int .mul (.t 60) (.t 61)) ::
om 6 62 :: [])) .skip)))) (.reg (
 oo 63 (.int .add (.t 43) z1) ::
om 43 63 :: []))))))))))))))) (.seq (.reg (
 oo 64 (.load1 (.t 1)) ::
oo 65 (.nilck (.t 64)) ::
oo 66 (.faddr 0 (.t 65)) ::
oo 67 (.load1 (.t 66)) ::
oo 68 (.mkslice [k0] 8 2 (.t 67) (.t 67)) ::
om 11 68 :: [])) (.seq (.reg (
 om 69 11 ::
om 70 3 ::
om 71 6 ::
oo 72 (.ixsl 1 (.t 69) (.t 70)) ::
oz (.store 1 (.t 72) (.t 71)) :: [])) (.seq (.seq (.reg (
 oo 73 (.load1 (.t 1)) ::
oo 74 (.nilck (.t 73)) ::
oo 75 (.faddr 1 (.t 74)) ::
oo 76 (.load1 (.t 75)) ::
oo 77 (.mrange (.t 76)) :: [])) (.block 6 (.loop (.seq (.next (.t 77) 78 79) (.seq (.cond (.t 79) .skip (.exit 6)) (.block 7 (.seq (.reg (
 oo 80 (.entry (.t 77)) ::
oo 81 (.extract (.t 80) 0) ::
oo 82 (.extract (.t 80) 1) ::
oo 13 (.alloc [k0, k0, k0, k0, k0, k0, k0, k0, k0, k0, k0, k0, k0, k0, k0] 228) ::
om 12 81 ::
oz (.store 15 (.t 13) (.t 82)) :: [])) (.dreg (
 om 83 11 ::
om 84 12 ::
om 85 3 ::
oo 86 (.faddr 0 (.t 13)) ::
oo 87 (.faddr 0 (.t 86)) ::
oo 88 (.ixarr 5 1 (.t 87) (.t 85)) ::
oo 89 (.load1 (.t 88)) ::
oo 90 (.neg (.t 89)) ::
om 91 6 ::
om 92 12 ::
oo 93 (.faddr 0 (.t 13)) ::
oo 94 (.faddr 0 (.t 93)) ::
oo 95 (.ixarr 5 1 (.t 94) (.t 92)) ::
oo 96 (.load1 (.t 95)) ::
oo 97 (.idiv true (.t 91) (.t 96)) ::
oo 98 (.int .mul (.t 90) (.t 97)) ::
oo 99 (.ixsl 1 (.t 83) (.t 84)) ::
oz (.store 1 (.t 99) (.t 98)) :: []) [])))))))) (.seq (.reg (
 om 100 0 ::
om 101 11 ::
⟨(some 102), none, (.call (.t 100) [(.t 101)])⟩ ::
oo 103 (.not (.t 102)) :: [])) (.cond (.t 103) .ret .skip)))))))))) (.reg (
 oo 104 (.int .add (.t 18) z1) ::
om 18 104 :: []))))))))
def y174 : List ResultVar := []
theorem funx174 : FunX Tryz.prog 174 105 2 x174 y174 :=
  ⟨rfl, nds, Tryz.f174, _, rfl, rfl, rfl, by decide, rfl, rfl, rfl⟩
end AE.Tryz
