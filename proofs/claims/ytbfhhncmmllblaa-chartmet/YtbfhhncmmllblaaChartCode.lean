/- Made by gen3.py: the code of the functions, compiled for the evaluator; each is that of the program, by evaluation. -/
import Derived.Test.YtbfhhncmmllblaaProg
import Derived.Test.YtbfhhncmmllblaaAEtwo
set_option linter.unusedVariables false
set_option linter.unusedSimpArgs false
set_option linter.unusedSectionVars false
namespace AE.Try
open Go AE Go.Proofs
def r6 : List ResultVar := [.tmp 6]
/-- tumblehome/tumblehomelaw08.ChartMet -/
noncomputable def a7 : ACode := (.seq (.reg (
    ⟨(some 6), none, (.op (.box (.t 0) 25))⟩ ::
⟨(some 8), none, (.op (.box (.t 2) 56))⟩ ::
⟨(some 12), none, (.op (.mv (.c (Value.bool false))))⟩ :: [])) (.seq (.seq (.reg (
    ⟨(some 24), none, (.op (.loadn 3 (.t 6)))⟩ ::
⟨(some 25), none, (.call (.c (Value.func (.func 30) #[] #[])) [(.t 24)])⟩ ::
⟨(some 26), none, (.op (.not (.t 25)))⟩ ::
⟨(some 27), none, (.op (.mv (.t 26)))⟩ ::
⟨(some 28), (some (27, false)), (.op (.mv (.t 1)))⟩ ::
⟨(some 29), (some (27, false)), (.op (.len (.t 28)))⟩ ::
⟨(some 30), (some (27, false)), (.op (.int .gtr (.t 29) (.c (Value.int .i64 100))))⟩ ::
⟨(some 31), none, (.op (.pick (.t 27) (.c (Value.bool true)) (.t 30)))⟩ ::
⟨(some 32), none, (.op (.mv (.t 31)))⟩ ::
⟨(some 33), (some (32, false)), (.op (.faddr 0 (.t 6)))⟩ ::
⟨(some 34), (some (32, false)), (.op (.load1 (.t 33)))⟩ ::
⟨(some 35), (some (32, false)), (.op (.faddr 0 (.t 6)))⟩ ::
⟨(some 36), (some (32, false)), (.op (.load1 (.t 35)))⟩ ::
⟨(some 37), (some (32, false)), (.op (.len (.t 36)))⟩ ::
⟨(some 38), (some (32, false)), (.op (.int .sub (.t 37) (.c (Value.int .i64 1))))⟩ ::
⟨(some 39), (some (32, false)), (.op (.ixsl 1 (.t 34) (.t 38)))⟩ ::
⟨(some 40), (some (32, false)), (.op (.load1 (.t 39)))⟩ ::
⟨(some 41), (some (32, false)), (.op (.int .gtr (.t 40) (.c (Value.int .i64 100))))⟩ ::
⟨(some 42), none, (.op (.pick (.t 32) (.c (Value.bool true)) (.t 41)))⟩ ::
⟨(some 43), none, (.op (.mv (.t 42)))⟩ ::
⟨(some 44), (some (43, false)), (.op (.faddr 1 (.t 6)))⟩ ::
⟨(some 45), (some (43, false)), (.op (.load1 (.t 44)))⟩ ::
⟨(some 46), (some (43, false)), (.op (.faddr 1 (.t 6)))⟩ ::
⟨(some 47), (some (43, false)), (.op (.load1 (.t 46)))⟩ ::
⟨(some 48), (some (43, false)), (.op (.len (.t 47)))⟩ ::
⟨(some 49), (some (43, false)), (.op (.int .sub (.t 48) (.c (Value.int .i64 1))))⟩ ::
⟨(some 50), (some (43, false)), (.op (.ixsl 1 (.t 45) (.t 49)))⟩ ::
⟨(some 51), (some (43, false)), (.op (.load1 (.t 50)))⟩ ::
⟨(some 52), (some (43, false)), (.op (.int .gtr (.t 51) (.c (Value.int .i64 100))))⟩ ::
⟨(some 53), none, (.op (.pick (.t 43) (.c (Value.bool true)) (.t 52)))⟩ :: [])) (.cond (.t 53) (.seq (.reg (
    ⟨(some 54), none, (.call (.c (Value.func (.func 14) #[] #[])) [])⟩ ::
⟨(some 12), none, (.op (.mv (.t 54)))⟩ :: [])) .ret) .skip)) (.seq (.seq (.reg (
    ⟨(some 13), none, (.op (.mv (.c (Value.int .i64 0))))⟩ :: [])) (.block 0 (.loop (.seq (.seq (.reg (
    ⟨(some 55), none, (.op (.mv (.t 13)))⟩ ::
⟨(some 56), none, (.op (.faddr 2 (.t 6)))⟩ ::
⟨(some 57), none, (.op (.load1 (.t 56)))⟩ ::
⟨(some 58), none, (.op (.len (.t 57)))⟩ ::
⟨(some 59), none, (.op (.int .lss (.t 55) (.t 58)))⟩ :: [])) (.cond (.t 59) .skip (.exit 0))) (.seq (.block 1 (.seq (.reg (
    ⟨(some 62), none, (.op (.faddr 2 (.t 6)))⟩ ::
⟨(some 63), none, (.op (.load1 (.t 62)))⟩ ::
⟨(some 64), none, (.op (.mv (.t 13)))⟩ ::
⟨(some 65), none, (.op (.ixsl 1 (.t 63) (.t 64)))⟩ ::
⟨(some 66), none, (.op (.load1 (.t 65)))⟩ ::
⟨(some 67), none, (.op (.ixsl 2 (.t 66) (.c (Value.int .i64 0))))⟩ ::
⟨(some 68), none, (.op (.faddr 1 (.t 67)))⟩ ::
⟨(some 69), none, (.op (.load1 (.t 68)))⟩ ::
⟨(some 70), none, (.op (.int .gtr (.t 69) (.c (Value.int .i64 1000))))⟩ :: [])) (.cond (.t 70) (.seq (.reg (
    ⟨(some 71), none, (.call (.c (Value.func (.func 14) #[] #[])) [])⟩ ::
⟨(some 12), none, (.op (.mv (.t 71)))⟩ :: [])) .ret) .skip))) (.reg (
    ⟨(some 60), none, (.op (.mv (.t 13)))⟩ ::
⟨(some 61), none, (.op (.int .add (.t 60) (.c (Value.int .i64 1))))⟩ ::
⟨(some 13), none, (.op (.mv (.t 61)))⟩ :: []))))))) (.seq (.reg (
    ⟨(some 72), none, (.op (.loadn 3 (.t 6)))⟩ ::
⟨(some 73), none, (.op (.mv (.t 1)))⟩ ::
⟨(some 74), none, (.call (.c (Value.func (.func 35) #[] #[])) [(.t 72), (.t 73)])⟩ ::
⟨(some 14), none, (.op (.mv (.t 74)))⟩ :: [])) (.seq (.reg (
    ⟨(some 75), none, (.op (.loadn 3 (.t 6)))⟩ ::
⟨(some 76), none, (.op (.loadn 2 (.t 8)))⟩ ::
⟨(some 77), none, (.call (.c (Value.func (.func 32) #[] #[])) [(.t 75), (.t 76)])⟩ ::
⟨(some 78), none, (.op (.field1 0 (.t 77)))⟩ ::
⟨(some 15), none, (.op (.mv (.t 78)))⟩ :: [])) (.seq (.reg (
    ⟨(some 79), none, (.op (.mv (.t 3)))⟩ ::
⟨(some 80), none, (.op (.conv .i64 (.t 79)))⟩ ::
⟨(some 81), none, (.op (.mv (.t 4)))⟩ ::
⟨(some 82), none, (.op (.conv .i64 (.t 81)))⟩ ::
⟨(some 83), none, (.op (.int .add (.c (Value.int .i64 1)) (.t 82)))⟩ ::
⟨(some 84), none, (.op (.build [Value.int .i64 0, Value.int .i64 0] [(0, 1, (.t 80)), (1, 1, (.t 83))]))⟩ ::
⟨(some 16), none, (.op (.alloc [Value.int .i64 0, Value.int .i64 0] 44))⟩ ::
⟨none, none, (.op (.store 2 (.t 16) (.t 84)))⟩ :: [])) (.seq (.reg (
    ⟨(some 86), none, (.op (.loadn 3 (.t 6)))⟩ ::
⟨(some 87), none, (.op (.mv (.t 14)))⟩ ::
⟨(some 88), none, (.op (.mv (.t 15)))⟩ ::
⟨(some 89), none, (.op (.loadn 2 (.t 16)))⟩ ::
⟨(some 90), none, (.call (.c (Value.func (.func 23) #[] #[])) [(.t 86), (.t 87), (.t 88), (.t 89)])⟩ ::
⟨(some 85), none, (.op (.mv (.t 90)))⟩ ::
⟨(some 91), none, (.op (.extract (.t 85) 0))⟩ ::
⟨(some 92), none, (.op (.extract (.t 85) 1))⟩ ::
⟨(some 17), none, (.op (.alloc [Value.int .i64 0, Value.int .i64 0] 32))⟩ ::
⟨none, none, (.op (.store 2 (.t 17) (.t 91)))⟩ ::
⟨(some 18), none, (.op (.mv (.t 92)))⟩ :: [])) (.seq (.reg (
    ⟨(some 94), none, (.op (.loadn 3 (.t 6)))⟩ ::
⟨(some 95), none, (.op (.mv (.t 15)))⟩ ::
⟨(some 96), none, (.op (.loadn 2 (.t 16)))⟩ ::
⟨(some 97), none, (.call (.c (Value.func (.func 25) #[] #[])) [(.t 94), (.t 95), (.t 96)])⟩ ::
⟨(some 93), none, (.op (.mv (.t 97)))⟩ ::
⟨(some 98), none, (.op (.extract (.t 93) 0))⟩ ::
⟨(some 99), none, (.op (.extract (.t 93) 1))⟩ ::
⟨(some 19), none, (.op (.alloc [Value.int .i64 0, Value.int .i64 0, Value.int .i64 0, Value.int .i64 0] 37))⟩ ::
⟨none, none, (.op (.store 4 (.t 19) (.t 98)))⟩ ::
⟨(some 20), none, (.op (.mv (.t 99)))⟩ :: [])) (.seq (.seq (.reg (
    ⟨(some 100), none, (.op (.mv (.t 18)))⟩ ::
⟨(some 101), none, (.op (.int .neq (.t 100) (.c (Value.int .i64 0))))⟩ ::
⟨(some 102), none, (.op (.mv (.t 101)))⟩ ::
⟨(some 103), (some (102, true)), (.op (.mv (.t 18)))⟩ ::
⟨(some 104), (some (102, true)), (.op (.int .neq (.t 103) (.c (Value.int .i64 5))))⟩ ::
⟨(some 105), none, (.op (.pick (.t 102) (.t 104) (.c (Value.bool false))))⟩ ::
⟨(some 106), none, (.op (.mv (.t 105)))⟩ ::
⟨(some 107), (some (106, false)), (.op (.mv (.t 20)))⟩ ::
⟨(some 108), (some (106, false)), (.op (.int .neq (.t 107) (.c (Value.int .i64 0))))⟩ ::
⟨(some 109), (some (106, false)), (.op (.mv (.t 108)))⟩ ::
⟨(some 110), (some (109, true)), (.op (.mv (.t 20)))⟩ ::
⟨(some 111), (some (109, true)), (.op (.int .neq (.t 110) (.c (Value.int .i64 5))))⟩ ::
⟨(some 112), (some (106, false)), (.op (.pick (.t 109) (.t 111) (.c (Value.bool false))))⟩ ::
⟨(some 113), none, (.op (.pick (.t 106) (.c (Value.bool true)) (.t 112)))⟩ ::
⟨(some 114), none, (.op (.mv (.t 113)))⟩ ::
⟨(some 115), (some (114, false)), (.op (.mv (.t 20)))⟩ ::
⟨(some 116), (some (114, false)), (.op (.int .eql (.t 115) (.c (Value.int .i64 0))))⟩ ::
⟨(some 117), (some (114, false)), (.op (.mv (.t 116)))⟩ ::
⟨(some 118), (some (117, true)), (.op (.mv (.t 18)))⟩ ::
⟨(some 119), (some (117, true)), (.op (.int .neq (.t 118) (.c (Value.int .i64 0))))⟩ ::
⟨(some 120), (some (114, false)), (.op (.pick (.t 117) (.t 119) (.c (Value.bool false))))⟩ ::
⟨(some 121), none, (.op (.pick (.t 114) (.c (Value.bool true)) (.t 120)))⟩ :: [])) (.cond (.t 121) (.seq (.reg (
    ⟨(some 12), none, (.op (.mv (.c (Value.bool false))))⟩ :: [])) .ret) .skip)) (.seq (.seq (.reg (
    ⟨(some 122), none, (.op (.mv (.t 18)))⟩ ::
⟨(some 123), none, (.op (.int .neq (.t 122) (.c (Value.int .i64 0))))⟩ :: [])) (.cond (.t 123) (.seq (.reg (
    ⟨(some 124), none, (.call (.c (Value.func (.func 14) #[] #[])) [])⟩ ::
⟨(some 12), none, (.op (.mv (.t 124)))⟩ :: [])) .ret) .skip)) (.seq (.dreg (
    ⟨(some 125), none, (.op (.faddr 1 (.t 6)))⟩ ::
⟨(some 126), none, (.op (.load1 (.t 125)))⟩ ::
⟨(some 127), none, (.op (.ixsl 1 (.t 126) (.c (Value.int .i64 0))))⟩ ::
⟨(some 128), none, (.op (.load1 (.t 127)))⟩ ::
⟨(some 129), none, (.op (.faddr 1 (.t 6)))⟩ ::
⟨(some 130), none, (.op (.load1 (.t 129)))⟩ ::
⟨(some 131), none, (.op (.faddr 1 (.t 6)))⟩ ::
⟨(some 132), none, (.op (.load1 (.t 131)))⟩ ::
⟨(some 133), none, (.op (.len (.t 132)))⟩ ::
⟨(some 134), none, (.op (.int .sub (.t 133) (.c (Value.int .i64 1))))⟩ ::
⟨(some 135), none, (.op (.ixsl 1 (.t 130) (.t 134)))⟩ ::
⟨(some 136), none, (.op (.load1 (.t 135)))⟩ ::
⟨(some 21), none, (.op (.mv (.t 128)))⟩ ::
⟨(some 22), none, (.op (.mv (.t 136)))⟩ :: []) []) (.seq (.seq (.dreg (
    ⟨(some 137), none, (.op (.faddr 1 (.t 17)))⟩ ::
⟨(some 138), none, (.op (.load1 (.t 137)))⟩ ::
⟨(some 139), none, (.op (.int .lss (.t 138) (.c (Value.int .i64 1))))⟩ ::
⟨(some 140), none, (.op (.mv (.t 139)))⟩ ::
⟨(some 141), (some (140, false)), (.op (.faddr 1 (.t 17)))⟩ ::
⟨(some 142), (some (140, false)), (.op (.load1 (.t 141)))⟩ ::
⟨(some 143), (some (140, false)), (.op (.int .gtr (.t 142) (.c (Value.int .i64 1073741824))))⟩ ::
⟨(some 144), none, (.op (.pick (.t 140) (.c (Value.bool true)) (.t 143)))⟩ ::
⟨(some 145), none, (.op (.mv (.t 144)))⟩ ::
⟨(some 146), (some (145, false)), (.op (.faddr 0 (.t 17)))⟩ ::
⟨(some 147), (some (145, false)), (.op (.load1 (.t 146)))⟩ ::
⟨(some 148), (some (145, false)), (.op (.mv (.t 21)))⟩ ::
⟨(some 149), (some (145, false)), (.op (.faddr 1 (.t 17)))⟩ ::
⟨(some 150), (some (145, false)), (.op (.load1 (.t 149)))⟩ ::
⟨(some 151), (some (145, false)), (.op (.int .mul (.t 148) (.t 150)))⟩ ::
⟨(some 152), (some (145, false)), (.op (.int .lss (.t 147) (.t 151)))⟩ ::
⟨(some 153), none, (.op (.pick (.t 145) (.c (Value.bool true)) (.t 152)))⟩ ::
⟨(some 154), none, (.op (.mv (.t 153)))⟩ ::
⟨(some 155), (some (154, false)), (.op (.faddr 0 (.t 17)))⟩ ::
⟨(some 156), (some (154, false)), (.op (.load1 (.t 155)))⟩ ::
⟨(some 157), (some (154, false)), (.op (.mv (.t 22)))⟩ ::
⟨(some 158), (some (154, false)), (.op (.faddr 1 (.t 17)))⟩ ::
⟨(some 159), (some (154, false)), (.op (.load1 (.t 158)))⟩ ::
⟨(some 160), (some (154, false)), (.op (.int .mul (.t 157) (.t 159)))⟩ ::
⟨(some 161), (some (154, false)), (.op (.int .gtr (.t 156) (.t 160)))⟩ ::
⟨(some 162), none, (.op (.pick (.t 154) (.c (Value.bool true)) (.t 161)))⟩ ::
⟨(some 163), none, (.op (.mv (.t 162)))⟩ ::
⟨(some 164), (some (163, false)), (.op (.faddr 0 (.t 17)))⟩ ::
⟨(some 165), (some (163, false)), (.op (.load1 (.t 164)))⟩ ::
⟨(some 166), (some (163, false)), (.op (.faddr 1 (.t 17)))⟩ ::
⟨(some 167), (some (163, false)), (.op (.load1 (.t 166)))⟩ ::
⟨(some 168), (some (163, false)), (.call (.c (Value.func (.func 36) #[] #[])) [(.t 165), (.t 167)])⟩ ::
⟨(some 169), (some (163, false)), (.op (.loadn 2 (.t 17)))⟩ ::
⟨(some 170), (some (163, false)), (.op (.pure (rawOp Try.f7 18 33)))⟩ ::
⟨(some 171), none, (.op (.pick (.t 163) (.c (Value.bool true)) (.t 170)))⟩ :: []) []) (.cond (.t 171) (.seq (.reg (
    ⟨(some 12), none, (.op (.mv (.c (Value.bool false))))⟩ :: [])) .ret) .skip)) (.seq (.seq (.dreg (
    ⟨(some 172), none, (.op (.loadn 3 (.t 6)))⟩ ::
⟨(some 173), none, (.op (.mv (.t 14)))⟩ ::
⟨(some 174), none, (.op (.mv (.t 15)))⟩ ::
⟨(some 175), none, (.op (.loadn 2 (.t 17)))⟩ ::
⟨(some 176), none, (.call (.c (Value.func (.func 37) #[] #[])) [(.t 172), (.t 173), (.t 174), (.t 175)])⟩ ::
⟨(some 177), none, (.op (.faddr 0 (.t 16)))⟩ ::
⟨(some 178), none, (.op (.load1 (.t 177)))⟩ ::
⟨(some 179), none, (.op (.faddr 1 (.t 17)))⟩ ::
⟨(some 180), none, (.op (.load1 (.t 179)))⟩ ::
⟨(some 181), none, (.op (.int .mul (.t 178) (.t 180)))⟩ ::
⟨(some 182), none, (.op (.faddr 1 (.t 16)))⟩ ::
⟨(some 183), none, (.op (.load1 (.t 182)))⟩ ::
⟨(some 184), none, (.op (.faddr 0 (.t 17)))⟩ ::
⟨(some 185), none, (.op (.load1 (.t 184)))⟩ ::
⟨(some 186), none, (.op (.int .mul (.t 183) (.t 185)))⟩ ::
⟨(some 187), none, (.op (.int .add (.t 181) (.t 186)))⟩ ::
⟨(some 188), none, (.op (.faddr 1 (.t 17)))⟩ ::
⟨(some 189), none, (.op (.load1 (.t 188)))⟩ ::
⟨(some 190), none, (.call (.c (Value.func (.func 36) #[] #[])) [(.t 187), (.t 189)])⟩ ::
⟨(some 191), none, (.op (.pure (rawOp Try.f7 20 19)))⟩ :: []) []) (.cond (.t 191) (.seq (.reg (
    ⟨(some 12), none, (.op (.mv (.c (Value.bool false))))⟩ :: [])) .ret) .skip)) (.seq (.seq (.reg (
    ⟨(some 192), none, (.op (.mv (.t 20)))⟩ ::
⟨(some 193), none, (.op (.int .eql (.t 192) (.c (Value.int .i64 0))))⟩ ::
⟨(some 194), none, (.op (.mv (.t 193)))⟩ ::
⟨(some 195), (some (194, true)), (.op (.faddr 0 (.t 19)))⟩ ::
⟨(some 196), (some (194, true)), (.op (.loadn 2 (.t 195)))⟩ ::
⟨(some 197), (some (194, true)), (.op (.loadn 2 (.t 17)))⟩ ::
⟨(some 198), (some (194, true)), (.call (.c (Value.func (.func 38) #[] #[])) [(.t 196), (.t 197)])⟩ ::
⟨(some 199), (some (194, true)), (.op (.not (.t 198)))⟩ ::
⟨(some 200), (some (194, true)), (.op (.mv (.t 199)))⟩ ::
⟨(some 201), (some (200, false)), (.op (.loadn 2 (.t 17)))⟩ ::
⟨(some 202), (some (200, false)), (.op (.faddr 2 (.t 19)))⟩ ::
⟨(some 203), (some (200, false)), (.op (.loadn 2 (.t 202)))⟩ ::
⟨(some 204), (some (200, false)), (.call (.c (Value.func (.func 38) #[] #[])) [(.t 201), (.t 203)])⟩ ::
⟨(some 205), (some (200, false)), (.op (.not (.t 204)))⟩ ::
⟨(some 206), (some (194, true)), (.op (.pick (.t 200) (.c (Value.bool true)) (.t 205)))⟩ ::
⟨(some 207), none, (.op (.pick (.t 194) (.t 206) (.c (Value.bool false))))⟩ :: [])) (.cond (.t 207) (.seq (.reg (
    ⟨(some 12), none, (.op (.mv (.c (Value.bool false))))⟩ :: [])) .ret) .skip)) (.seq (.reg (
    ⟨(some 208), none, (.op (.faddr 0 (.t 16)))⟩ ::
⟨(some 209), none, (.op (.load1 (.t 208)))⟩ ::
⟨(some 210), none, (.op (.mv (.t 5)))⟩ ::
⟨(some 211), none, (.op (.conv .i64 (.t 210)))⟩ ::
⟨(some 212), none, (.op (.int .add (.t 209) (.t 211)))⟩ ::
⟨(some 213), none, (.op (.faddr 0 (.t 16)))⟩ ::
⟨none, none, (.op (.store 1 (.t 213) (.t 212)))⟩ :: [])) (.seq (.reg (
    ⟨(some 215), none, (.op (.loadn 3 (.t 6)))⟩ ::
⟨(some 216), none, (.op (.mv (.t 14)))⟩ ::
⟨(some 217), none, (.op (.mv (.t 15)))⟩ ::
⟨(some 218), none, (.op (.loadn 2 (.t 16)))⟩ ::
⟨(some 219), none, (.call (.c (Value.func (.func 23) #[] #[])) [(.t 215), (.t 216), (.t 217), (.t 218)])⟩ ::
⟨(some 214), none, (.op (.mv (.t 219)))⟩ ::
⟨(some 220), none, (.op (.extract (.t 214) 0))⟩ ::
⟨(some 221), none, (.op (.extract (.t 214) 1))⟩ ::
⟨(some 23), none, (.op (.alloc [Value.int .i64 0, Value.int .i64 0] 32))⟩ ::
⟨none, none, (.op (.store 2 (.t 23) (.t 220)))⟩ ::
⟨(some 18), none, (.op (.mv (.t 221)))⟩ :: [])) (.seq (.reg (
    ⟨(some 222), none, (.op (.mv (.t 18)))⟩ ::
⟨(some 223), none, (.op (.int .eql (.t 222) (.c (Value.int .i64 5))))⟩ ::
⟨(some 224), none, (.op (.mv (.t 223)))⟩ ::
⟨(some 225), (some (224, false)), (.op (.mv (.t 18)))⟩ ::
⟨(some 226), (some (224, false)), (.op (.int .eql (.t 225) (.c (Value.int .i64 0))))⟩ ::
⟨(some 227), (some (224, false)), (.op (.mv (.t 226)))⟩ ::
⟨(some 228), (some (227, true)), (.op (.loadn 2 (.t 23)))⟩ ::
⟨(some 229), (some (227, true)), (.op (.loadn 2 (.t 17)))⟩ ::
⟨(some 230), (some (227, true)), (.call (.c (Value.func (.func 38) #[] #[])) [(.t 228), (.t 229)])⟩ ::
⟨(some 231), (some (224, false)), (.op (.pick (.t 227) (.t 230) (.c (Value.bool false))))⟩ ::
⟨(some 232), none, (.op (.pick (.t 224) (.c (Value.bool true)) (.t 231)))⟩ ::
⟨(some 233), none, (.op (.mv (.t 232)))⟩ ::
⟨(some 234), (some (233, true)), (.call (.c (Value.func (.func 14) #[] #[])) [])⟩ ::
⟨(some 235), none, (.op (.pick (.t 233) (.t 234) (.c (Value.bool false))))⟩ ::
⟨(some 12), none, (.op (.mv (.t 235)))⟩ :: [])) .ret)))))))))))))))))
def r7 : List ResultVar := [.tmp 12]
set_option maxRecDepth 1000000 in
set_option maxHeartbeats 4000000 in
theorem fun7 : Fun Try.prog 7 236 6 a7 r7 :=
  ⟨rfl, Try.f7, _, rfl, rfl, rfl, by decide, rfl, rfl, rfl⟩
/-- tumblehome/tumblehomelaw08.great -/
noncomputable def a13 : ACode := (.seq (.reg (
    ⟨(some 2), none, (.op (.box (.t 0) 25))⟩ ::
⟨(some 4), none, (.op (.mv (.c (Value.bool false))))⟩ :: [])) (.seq (.seq (.reg (
    ⟨(some 7), none, (.op (.faddr 0 (.t 2)))⟩ ::
⟨(some 8), none, (.op (.load1 (.t 7)))⟩ ::
⟨(some 9), none, (.op (.len (.t 8)))⟩ ::
⟨(some 10), none, (.op (.int .gtr (.t 9) (.c (Value.int .i64 12))))⟩ ::
⟨(some 11), none, (.op (.mv (.t 10)))⟩ ::
⟨(some 12), (some (11, false)), (.op (.faddr 1 (.t 2)))⟩ ::
⟨(some 13), (some (11, false)), (.op (.load1 (.t 12)))⟩ ::
⟨(some 14), (some (11, false)), (.op (.len (.t 13)))⟩ ::
⟨(some 15), (some (11, false)), (.op (.int .gtr (.t 14) (.c (Value.int .i64 14))))⟩ ::
⟨(some 16), none, (.op (.pick (.t 11) (.c (Value.bool true)) (.t 15)))⟩ ::
⟨(some 17), none, (.op (.mv (.t 16)))⟩ ::
⟨(some 18), (some (17, false)), (.op (.faddr 2 (.t 2)))⟩ ::
⟨(some 19), (some (17, false)), (.op (.load1 (.t 18)))⟩ ::
⟨(some 20), (some (17, false)), (.op (.len (.t 19)))⟩ ::
⟨(some 21), (some (17, false)), (.op (.int .gtr (.t 20) (.c (Value.int .i64 12))))⟩ ::
⟨(some 22), none, (.op (.pick (.t 17) (.c (Value.bool true)) (.t 21)))⟩ ::
⟨(some 23), none, (.op (.mv (.t 22)))⟩ ::
⟨(some 24), (some (23, false)), (.op (.mv (.t 1)))⟩ ::
⟨(some 25), (some (23, false)), (.op (.len (.t 24)))⟩ ::
⟨(some 26), (some (23, false)), (.op (.int .gtr (.t 25) (.c (Value.int .i64 12))))⟩ ::
⟨(some 27), none, (.op (.pick (.t 23) (.c (Value.bool true)) (.t 26)))⟩ :: [])) (.cond (.t 27) (.seq (.reg (
    ⟨(some 4), none, (.op (.mv (.c (Value.bool true))))⟩ :: [])) .ret) .skip)) (.seq (.seq (.reg (
    ⟨(some 5), none, (.op (.mv (.c (Value.int .i64 0))))⟩ :: [])) (.block 0 (.loop (.seq (.seq (.reg (
    ⟨(some 28), none, (.op (.mv (.t 5)))⟩ ::
⟨(some 29), none, (.op (.faddr 2 (.t 2)))⟩ ::
⟨(some 30), none, (.op (.load1 (.t 29)))⟩ ::
⟨(some 31), none, (.op (.len (.t 30)))⟩ ::
⟨(some 32), none, (.op (.int .lss (.t 28) (.t 31)))⟩ :: [])) (.cond (.t 32) .skip (.exit 0))) (.seq (.block 1 (.seq (.reg (
    ⟨(some 35), none, (.op (.faddr 2 (.t 2)))⟩ ::
⟨(some 36), none, (.op (.load1 (.t 35)))⟩ ::
⟨(some 37), none, (.op (.mv (.t 5)))⟩ ::
⟨(some 38), none, (.op (.ixsl 1 (.t 36) (.t 37)))⟩ ::
⟨(some 39), none, (.op (.load1 (.t 38)))⟩ ::
⟨(some 40), none, (.op (.len (.t 39)))⟩ ::
⟨(some 41), none, (.op (.int .gtr (.t 40) (.c (Value.int .i64 14))))⟩ :: [])) (.cond (.t 41) (.seq (.reg (
    ⟨(some 4), none, (.op (.mv (.c (Value.bool true))))⟩ :: [])) .ret) .skip))) (.reg (
    ⟨(some 33), none, (.op (.mv (.t 5)))⟩ ::
⟨(some 34), none, (.op (.int .add (.t 33) (.c (Value.int .i64 1))))⟩ ::
⟨(some 5), none, (.op (.mv (.t 34)))⟩ :: []))))))) (.seq (.seq (.reg (
    ⟨(some 6), none, (.op (.mv (.c (Value.int .i64 0))))⟩ :: [])) (.block 2 (.loop (.seq (.seq (.reg (
    ⟨(some 42), none, (.op (.mv (.t 6)))⟩ ::
⟨(some 43), none, (.op (.mv (.t 1)))⟩ ::
⟨(some 44), none, (.op (.len (.t 43)))⟩ ::
⟨(some 45), none, (.op (.int .lss (.t 42) (.t 44)))⟩ :: [])) (.cond (.t 45) .skip (.exit 2))) (.seq (.block 3 (.seq (.reg (
    ⟨(some 48), none, (.op (.mv (.t 1)))⟩ ::
⟨(some 49), none, (.op (.mv (.t 6)))⟩ ::
⟨(some 50), none, (.op (.ixsl 1 (.t 48) (.t 49)))⟩ ::
⟨(some 51), none, (.op (.load1 (.t 50)))⟩ ::
⟨(some 52), none, (.op (.len (.t 51)))⟩ ::
⟨(some 53), none, (.op (.int .gtr (.t 52) (.c (Value.int .i64 14))))⟩ :: [])) (.cond (.t 53) (.seq (.reg (
    ⟨(some 4), none, (.op (.mv (.c (Value.bool true))))⟩ :: [])) .ret) .skip))) (.reg (
    ⟨(some 46), none, (.op (.mv (.t 6)))⟩ ::
⟨(some 47), none, (.op (.int .add (.t 46) (.c (Value.int .i64 1))))⟩ ::
⟨(some 6), none, (.op (.mv (.t 47)))⟩ :: []))))))) (.seq (.reg (
    ⟨(some 4), none, (.op (.mv (.c (Value.bool false))))⟩ :: [])) .ret)))))
def r13 : List ResultVar := [.tmp 4]
set_option maxRecDepth 1000000 in
set_option maxHeartbeats 4000000 in
theorem fun13 : Fun Try.prog 13 54 2 a13 r13 :=
  ⟨rfl, Try.f13, _, rfl, rfl, rfl, by decide, rfl, rfl, rfl⟩
/-- tumblehome/tumblehomelaw08.Works -/
noncomputable def a14 : ACode := (.seq (.reg (
    ⟨(some 0), none, (.op (.mv (.c (Value.bool false))))⟩ :: [])) (.seq (.reg (
    ⟨(some 18), none, (.call (.c (Value.func (.func 47) #[] #[])) [])⟩ ::
⟨(some 1), none, (.op (.alloc [Value.slice none 0 0, Value.slice none 0 0, Value.slice none 0 0] 25))⟩ ::
⟨none, none, (.op (.store 3 (.t 1) (.t 18)))⟩ :: [])) (.seq (.reg (
    ⟨(some 19), none, (.op (.bslice [Value.int .i64 0, Value.int .i64 0, Value.int .i64 0] [(0, 1, (.c (Value.int .i64 90))), (1, 1, (.c (Value.int .i64 50))), (2, 1, (.c (Value.int .i64 10)))] 3 2))⟩ ::
⟨(some 20), none, (.op (.bslice [Value.int .i64 0, Value.int .i64 0, Value.int .i64 0] [(0, 1, (.c (Value.int .i64 110))), (1, 1, (.c (Value.int .i64 70))), (2, 1, (.c (Value.int .i64 20)))] 3 2))⟩ ::
⟨(some 21), none, (.op (.bslice [Value.slice none 0 0, Value.slice none 0 0] [(0, 1, (.t 19)), (1, 1, (.t 20))] 2 22))⟩ ::
⟨(some 2), none, (.op (.mv (.t 21)))⟩ :: [])) (.seq (.dreg (
    ⟨(some 23), none, (.op (.loadn 3 (.t 1)))⟩ ::
⟨(some 24), none, (.op (.mv (.t 2)))⟩ ::
⟨(some 25), none, (.call (.c (Value.func (.func 48) #[] #[])) [(.c (Value.int .i64 900)), (.c (Value.int .i64 200))])⟩ ::
⟨(some 26), none, (.call (.c (Value.func (.func 15) #[] #[])) [(.t 23), (.t 24), (.t 25)])⟩ ::
⟨(some 22), none, (.op (.mv (.t 26)))⟩ ::
⟨(some 27), none, (.op (.extract (.t 22) 0))⟩ ::
⟨(some 28), none, (.op (.extract (.t 22) 1))⟩ ::
⟨(some 3), none, (.op (.alloc [Value.int .i64 0, Value.int .i64 0] 32))⟩ ::
⟨none, none, (.op (.store 2 (.t 3) (.t 27)))⟩ ::
⟨(some 4), none, (.op (.mv (.t 28)))⟩ :: []) []) (.seq (.dreg (
    ⟨(some 30), none, (.op (.loadn 3 (.t 1)))⟩ ::
⟨(some 31), none, (.call (.c (Value.func (.func 48) #[] #[])) [(.c (Value.int .i64 900)), (.c (Value.int .i64 200))])⟩ ::
⟨(some 32), none, (.call (.c (Value.func (.func 17) #[] #[])) [(.t 30), (.t 31)])⟩ ::
⟨(some 29), none, (.op (.mv (.t 32)))⟩ ::
⟨(some 33), none, (.op (.extract (.t 29) 0))⟩ ::
⟨(some 34), none, (.op (.extract (.t 29) 1))⟩ ::
⟨(some 5), none, (.op (.alloc [Value.int .i64 0, Value.int .i64 0, Value.int .i64 0, Value.int .i64 0] 37))⟩ ::
⟨none, none, (.op (.store 4 (.t 5) (.t 33)))⟩ ::
⟨(some 6), none, (.op (.mv (.t 34)))⟩ :: []) []) (.seq (.dreg (
    ⟨(some 36), none, (.op (.loadn 3 (.t 1)))⟩ ::
⟨(some 37), none, (.call (.c (Value.func (.func 48) #[] #[])) [(.c (Value.int .i64 1000)), (.c (Value.int .i64 0))])⟩ ::
⟨(some 38), none, (.call (.c (Value.func (.func 48) #[] #[])) [(.c (Value.int .i64 900)), (.c (Value.int .i64 0))])⟩ ::
⟨(some 39), none, (.call (.c (Value.func (.func 39) #[] #[])) [(.t 36), (.t 37), (.t 38)])⟩ ::
⟨(some 35), none, (.op (.mv (.t 39)))⟩ ::
⟨(some 40), none, (.op (.extract (.t 35) 0))⟩ ::
⟨(some 41), none, (.op (.extract (.t 35) 1))⟩ ::
⟨(some 7), none, (.op (.alloc [Value.int .i64 0, Value.int .i64 0, Value.int .i64 0, Value.int .i64 0] 37))⟩ ::
⟨none, none, (.op (.store 4 (.t 7) (.t 40)))⟩ ::
⟨(some 8), none, (.op (.mv (.t 41)))⟩ :: []) []) (.seq (.reg (
    ⟨(some 43), none, (.op (.loadn 3 (.t 1)))⟩ ::
⟨(some 44), none, (.op (.mv (.t 2)))⟩ ::
⟨(some 45), none, (.op (.build [Value.int .i64 0, Value.int .i64 0] [(0, 1, (.c (Value.int .i64 10))), (1, 1, (.c (Value.int .i64 1)))]))⟩ ::
⟨(some 46), none, (.call (.c (Value.func (.func 23) #[] #[])) [(.t 43), (.t 44), (.c (Value.int .i64 800)), (.t 45)])⟩ ::
⟨(some 42), none, (.op (.mv (.t 46)))⟩ ::
⟨(some 47), none, (.op (.extract (.t 42) 0))⟩ ::
⟨(some 48), none, (.op (.extract (.t 42) 1))⟩ ::
⟨(some 9), none, (.op (.alloc [Value.int .i64 0, Value.int .i64 0] 32))⟩ ::
⟨none, none, (.op (.store 2 (.t 9) (.t 47)))⟩ ::
⟨(some 10), none, (.op (.mv (.t 48)))⟩ :: [])) (.seq (.reg (
    ⟨(some 50), none, (.op (.loadn 3 (.t 1)))⟩ ::
⟨(some 51), none, (.op (.build [Value.int .i64 0, Value.int .i64 0] [(1, 1, (.c (Value.int .i64 1)))]))⟩ ::
⟨(some 52), none, (.call (.c (Value.func (.func 25) #[] #[])) [(.t 50), (.c (Value.int .i64 800)), (.t 51)])⟩ ::
⟨(some 49), none, (.op (.mv (.t 52)))⟩ ::
⟨(some 53), none, (.op (.extract (.t 49) 0))⟩ ::
⟨(some 54), none, (.op (.extract (.t 49) 1))⟩ ::
⟨(some 11), none, (.op (.alloc [Value.int .i64 0, Value.int .i64 0, Value.int .i64 0, Value.int .i64 0] 37))⟩ ::
⟨none, none, (.op (.store 4 (.t 11) (.t 53)))⟩ ::
⟨(some 12), none, (.op (.mv (.t 54)))⟩ :: [])) (.seq (.dreg (
    ⟨(some 56), none, (.op (.loadn 3 (.t 1)))⟩ ::
⟨(some 57), none, (.call (.c (Value.func (.func 48) #[] #[])) [(.c (Value.int .i64 800)), (.c (Value.int .i64 0))])⟩ ::
⟨(some 58), none, (.call (.c (Value.func (.func 48) #[] #[])) [(.c (Value.int .i64 1000)), (.c (Value.int .i64 0))])⟩ ::
⟨(some 59), none, (.call (.c (Value.func (.func 48) #[] #[])) [(.c (Value.int .i64 900)), (.c (Value.int .i64 0))])⟩ ::
⟨(some 60), none, (.op (.bslice [Value.int .i64 0, Value.int .i64 0, Value.int .i64 0, Value.int .i64 0, Value.int .i64 0, Value.int .i64 0] [(0, 2, (.t 57)), (2, 2, (.t 58)), (4, 2, (.t 59))] 3 28))⟩ ::
⟨(some 61), none, (.call (.c (Value.func (.func 27) #[] #[])) [(.t 56), (.t 60)])⟩ ::
⟨(some 55), none, (.op (.mv (.t 61)))⟩ ::
⟨(some 62), none, (.op (.extract (.t 55) 0))⟩ ::
⟨(some 63), none, (.op (.extract (.t 55) 1))⟩ ::
⟨(some 64), none, (.op (.extract (.t 55) 2))⟩ ::
⟨(some 13), none, (.op (.mv (.t 62)))⟩ ::
⟨(some 14), none, (.op (.mv (.t 63)))⟩ ::
⟨(some 15), none, (.op (.mv (.t 64)))⟩ :: []) []) (.seq (.dreg (
    ⟨(some 66), none, (.op (.loadn 3 (.t 1)))⟩ ::
⟨(some 67), none, (.op (.mv (.t 2)))⟩ ::
⟨(some 68), none, (.call (.c (Value.func (.func 48) #[] #[])) [(.c (Value.int .i64 900)), (.c (Value.int .i64 801))])⟩ ::
⟨(some 69), none, (.call (.c (Value.func (.func 15) #[] #[])) [(.t 66), (.t 67), (.t 68)])⟩ ::
⟨(some 65), none, (.op (.mv (.t 69)))⟩ ::
⟨(some 70), none, (.op (.extract (.t 65) 0))⟩ ::
⟨(some 71), none, (.op (.extract (.t 65) 1))⟩ ::
⟨(some 16), none, (.op (.alloc [Value.int .i64 0, Value.int .i64 0] 32))⟩ ::
⟨none, none, (.op (.store 2 (.t 16) (.t 70)))⟩ ::
⟨(some 17), none, (.op (.mv (.t 71)))⟩ :: []) []) (.seq (.dreg (
    ⟨(some 72), none, (.op (.mv (.t 4)))⟩ ::
⟨(some 73), none, (.op (.int .eql (.t 72) (.c (Value.int .i64 0))))⟩ ::
⟨(some 74), none, (.op (.mv (.t 73)))⟩ ::
⟨(some 75), (some (74, true)), (.op (.mv (.t 6)))⟩ ::
⟨(some 76), (some (74, true)), (.op (.int .eql (.t 75) (.c (Value.int .i64 0))))⟩ ::
⟨(some 77), none, (.op (.pick (.t 74) (.t 76) (.c (Value.bool false))))⟩ ::
⟨(some 78), none, (.op (.mv (.t 77)))⟩ ::
⟨(some 79), (some (78, true)), (.op (.mv (.t 8)))⟩ ::
⟨(some 80), (some (78, true)), (.op (.int .eql (.t 79) (.c (Value.int .i64 0))))⟩ ::
⟨(some 81), none, (.op (.pick (.t 78) (.t 80) (.c (Value.bool false))))⟩ ::
⟨(some 82), none, (.op (.mv (.t 81)))⟩ ::
⟨(some 83), (some (82, true)), (.op (.mv (.t 10)))⟩ ::
⟨(some 84), (some (82, true)), (.op (.int .eql (.t 83) (.c (Value.int .i64 0))))⟩ ::
⟨(some 85), none, (.op (.pick (.t 82) (.t 84) (.c (Value.bool false))))⟩ ::
⟨(some 86), none, (.op (.mv (.t 85)))⟩ ::
⟨(some 87), (some (86, true)), (.op (.mv (.t 12)))⟩ ::
⟨(some 88), (some (86, true)), (.op (.int .eql (.t 87) (.c (Value.int .i64 0))))⟩ ::
⟨(some 89), none, (.op (.pick (.t 86) (.t 88) (.c (Value.bool false))))⟩ ::
⟨(some 90), none, (.op (.mv (.t 89)))⟩ ::
⟨(some 91), (some (90, true)), (.op (.mv (.t 15)))⟩ ::
⟨(some 92), (some (90, true)), (.op (.int .eql (.t 91) (.c (Value.int .i64 0))))⟩ ::
⟨(some 93), none, (.op (.pick (.t 90) (.t 92) (.c (Value.bool false))))⟩ ::
⟨(some 94), none, (.op (.mv (.t 93)))⟩ ::
⟨(some 95), (some (94, true)), (.op (.mv (.t 17)))⟩ ::
⟨(some 96), (some (94, true)), (.op (.int .eql (.t 95) (.c (Value.int .i64 19))))⟩ ::
⟨(some 97), none, (.op (.pick (.t 94) (.t 96) (.c (Value.bool false))))⟩ ::
⟨(some 98), none, (.op (.mv (.t 97)))⟩ ::
⟨(some 99), (some (98, true)), (.op (.loadn 2 (.t 3)))⟩ ::
⟨(some 100), (some (98, true)), (.op (.build [Value.int .i64 0, Value.int .i64 0] [(0, 1, (.c (Value.int .i64 80))), (1, 1, (.c (Value.int .i64 1)))]))⟩ ::
⟨(some 101), (some (98, true)), (.op (.pure (rawOp Try.f14 10 29)))⟩ ::
⟨(some 102), none, (.op (.pick (.t 98) (.t 101) (.c (Value.bool false))))⟩ ::
⟨(some 103), none, (.op (.mv (.t 102)))⟩ ::
⟨(some 104), (some (103, true)), (.op (.loadn 4 (.t 5)))⟩ ::
⟨(some 105), (some (103, true)), (.call (.c (Value.func (.func 45) #[] #[])) [(.c (Value.int .i64 80)), (.c (Value.int .i64 90))])⟩ ::
⟨(some 106), (some (103, true)), (.op (.pure (rawOp Try.f14 10 34)))⟩ ::
⟨(some 107), none, (.op (.pick (.t 103) (.t 106) (.c (Value.bool false))))⟩ ::
⟨(some 108), none, (.op (.mv (.t 107)))⟩ ::
⟨(some 109), (some (108, true)), (.op (.loadn 4 (.t 7)))⟩ ::
⟨(some 110), (some (108, true)), (.call (.c (Value.func (.func 45) #[] #[])) [(.c (Value.int .i64 5)), (.c (Value.int .i64 15))])⟩ ::
⟨(some 111), (some (108, true)), (.op (.pure (rawOp Try.f14 10 39)))⟩ ::
⟨(some 112), none, (.op (.pick (.t 108) (.t 111) (.c (Value.bool false))))⟩ ::
⟨(some 113), none, (.op (.mv (.t 112)))⟩ ::
⟨(some 114), (some (113, true)), (.op (.loadn 2 (.t 9)))⟩ ::
⟨(some 115), (some (113, true)), (.op (.build [Value.int .i64 0, Value.int .i64 0] [(0, 1, (.c (Value.int .i64 800))), (1, 1, (.c (Value.int .i64 11)))]))⟩ ::
⟨(some 116), (some (113, true)), (.op (.pure (rawOp Try.f14 10 44)))⟩ ::
⟨(some 117), none, (.op (.pick (.t 113) (.t 116) (.c (Value.bool false))))⟩ ::
⟨(some 118), none, (.op (.mv (.t 117)))⟩ ::
⟨(some 119), (some (118, true)), (.op (.loadn 4 (.t 11)))⟩ ::
⟨(some 120), (some (118, true)), (.op (.build [Value.int .i64 0, Value.int .i64 0] [(0, 1, (.c (Value.int .i64 900))), (1, 1, (.c (Value.int .i64 11)))]))⟩ ::
⟨(some 121), (some (118, true)), (.op (.build [Value.int .i64 0, Value.int .i64 0] [(0, 1, (.c (Value.int .i64 1000))), (1, 1, (.c (Value.int .i64 11)))]))⟩ ::
⟨(some 122), (some (118, true)), (.op (.build [Value.int .i64 0, Value.int .i64 0, Value.int .i64 0, Value.int .i64 0] [(0, 2, (.t 120)), (2, 2, (.t 121))]))⟩ ::
⟨(some 123), (some (118, true)), (.op (.pure (rawOp Try.f14 10 51)))⟩ ::
⟨(some 124), none, (.op (.pick (.t 118) (.t 123) (.c (Value.bool false))))⟩ ::
⟨(some 125), none, (.op (.mv (.t 124)))⟩ ::
⟨(some 126), (some (125, true)), (.op (.mv (.t 13)))⟩ ::
⟨(some 127), (some (125, true)), (.op (.bslice [Value.int .i64 0] [(0, 1, (.c (Value.int .i64 1)))] 1 3))⟩ ::
⟨(some 128), (some (125, true)), (.call (.c (Value.func (.func 29) #[] #[])) [(.t 126), (.t 127)])⟩ ::
⟨(some 129), none, (.op (.pick (.t 125) (.t 128) (.c (Value.bool false))))⟩ ::
⟨(some 130), none, (.op (.mv (.t 129)))⟩ ::
⟨(some 131), (some (130, true)), (.op (.mv (.t 14)))⟩ ::
⟨(some 132), (some (130, true)), (.op (.bslice [Value.int .i64 0] [(0, 1, (.c (Value.int .i64 1)))] 1 3))⟩ ::
⟨(some 133), (some (130, true)), (.call (.c (Value.func (.func 29) #[] #[])) [(.t 131), (.t 132)])⟩ ::
⟨(some 134), none, (.op (.pick (.t 130) (.t 133) (.c (Value.bool false))))⟩ ::
⟨(some 0), none, (.op (.mv (.t 134)))⟩ :: []) []) .ret)))))))))))
def r14 : List ResultVar := [.tmp 0]
set_option maxRecDepth 1000000 in
set_option maxHeartbeats 4000000 in
theorem fun14 : Fun Try.prog 14 135 0 a14 r14 :=
  ⟨rfl, Try.f14, _, rfl, rfl, rfl, by decide, rfl, rfl, rfl⟩
/-- tumblehome/chart.Value -/
noncomputable def a15 : ACode := (.seq (.reg (
    ⟨(some 3), none, (.op (.box (.t 0) 25))⟩ ::
⟨(some 4), none, (.op (.box (.t 1) 26))⟩ ::
⟨(some 5), none, (.op (.box (.t 2) 28))⟩ ::
⟨(some 6), none, (.op (.alloc [Value.int .i64 0, Value.int .i64 0] 32))⟩ ::
⟨(some 7), none, (.op (.mv (.c (Value.int .i64 0))))⟩ :: [])) (.seq (.seq (.reg (
    ⟨(some 10), none, (.op (.loadn 3 (.t 3)))⟩ ::
⟨(some 11), none, (.op (.load1 (.t 4)))⟩ ::
⟨(some 12), none, (.call (.c (Value.func (.func 21) #[] #[])) [(.t 10), (.t 11)])⟩ ::
⟨(some 8), none, (.op (.mv (.t 12)))⟩ :: [])) (.seq (.reg (
    ⟨(some 13), none, (.op (.mv (.t 8)))⟩ ::
⟨(some 14), none, (.op (.int .neq (.t 13) (.c (Value.int .i64 0))))⟩ :: [])) (.cond (.t 14) (.seq (.reg (
    ⟨(some 15), none, (.op (.build [Value.int .i64 0, Value.int .i64 0] []))⟩ ::
⟨(some 16), none, (.op (.mv (.t 8)))⟩ ::
⟨none, none, (.op (.store 2 (.t 6) (.t 15)))⟩ ::
⟨(some 7), none, (.op (.mv (.t 16)))⟩ :: [])) .ret) .skip))) (.seq (.reg (
    ⟨(some 17), none, (.op (.loadn 3 (.t 3)))⟩ ::
⟨(some 18), none, (.op (.build [Value.slice none 0 0, Value.slice none 0 0, Value.slice none 0 0] [(0, 3, (.t 17))]))⟩ ::
⟨(some 9), none, (.op (.alloc [Value.slice none 0 0, Value.slice none 0 0, Value.slice none 0 0] 84))⟩ ::
⟨none, none, (.op (.store 3 (.t 9) (.t 18)))⟩ :: [])) (.seq (.seq (.reg (
    ⟨(some 19), none, (.op (.loadn 3 (.t 9)))⟩ ::
⟨(some 20), none, (.op (.loadn 2 (.t 5)))⟩ ::
⟨(some 21), none, (.op (.bslice [Value.int .i64 0, Value.int .i64 0] [(0, 2, (.t 20))] 1 28))⟩ ::
⟨(some 22), none, (.call (.c (Value.func (.func 49) #[] #[])) [(.t 19), (.t 21)])⟩ ::
⟨(some 23), none, (.op (.not (.t 22)))⟩ :: [])) (.cond (.t 23) (.seq (.reg (
    ⟨(some 24), none, (.op (.build [Value.int .i64 0, Value.int .i64 0] []))⟩ ::
⟨none, none, (.op (.store 2 (.t 6) (.t 24)))⟩ ::
⟨(some 7), none, (.op (.mv (.c (Value.int .i64 19))))⟩ :: [])) .ret) .skip)) (.seq (.reg (
    ⟨(some 25), none, (.op (.loadn 3 (.t 9)))⟩ ::
⟨(some 26), none, (.op (.loadn 2 (.t 5)))⟩ ::
⟨(some 27), none, (.op (.mkfn (Fn.func 51) [] [(.t 4)]))⟩ ::
⟨(some 28), none, (.call (.c (Value.func (.func 50) #[] #[])) [(.t 25), (.t 26), (.t 27)])⟩ ::
⟨none, none, (.op (.store 2 (.t 6) (.t 28)))⟩ ::
⟨(some 7), none, (.op (.mv (.c (Value.int .i64 0))))⟩ :: [])) .ret)))))
def r15 : List ResultVar := [.cell 6 32, .tmp 7]
set_option maxRecDepth 1000000 in
set_option maxHeartbeats 4000000 in
theorem fun15 : Fun Try.prog 15 29 3 a15 r15 :=
  ⟨rfl, Try.f15, _, rfl, rfl, rfl, by decide, rfl, rfl, rfl⟩
/-- tumblehome/tumblehomeref08.Value -/
noncomputable def a16 : ACode := (.seq (.reg (
    ⟨(some 3), none, (.op (.box (.t 0) 25))⟩ ::
⟨(some 5), none, (.op (.box (.t 2) 28))⟩ ::
⟨(some 6), none, (.op (.alloc [Value.int .i64 0, Value.int .i64 0] 32))⟩ ::
⟨(some 7), none, (.op (.mv (.c (Value.int .i64 0))))⟩ :: [])) (.seq (.seq (.reg (
    ⟨(some 8), none, (.op (.loadn 3 (.t 3)))⟩ ::
⟨(some 9), none, (.op (.mv (.t 1)))⟩ ::
⟨(some 10), none, (.call (.c (Value.func (.func 22) #[] #[])) [(.t 8), (.t 9)])⟩ ::
⟨(some 11), none, (.op (.int .neq (.t 10) (.c (Value.int .i64 0))))⟩ :: [])) (.cond (.t 11) (.seq (.reg (
    ⟨(some 12), none, (.op (.build [Value.int .i64 0, Value.int .i64 0] []))⟩ ::
⟨(some 13), none, (.op (.loadn 3 (.t 3)))⟩ ::
⟨(some 14), none, (.op (.mv (.t 1)))⟩ ::
⟨(some 15), none, (.call (.c (Value.func (.func 22) #[] #[])) [(.t 13), (.t 14)])⟩ ::
⟨none, none, (.op (.store 2 (.t 6) (.t 12)))⟩ ::
⟨(some 7), none, (.op (.mv (.t 15)))⟩ :: [])) .ret) .skip)) (.seq (.seq (.reg (
    ⟨(some 16), none, (.op (.loadn 3 (.t 3)))⟩ ::
⟨(some 17), none, (.op (.loadn 2 (.t 5)))⟩ ::
⟨(some 18), none, (.call (.c (Value.func (.func 52) #[] #[])) [(.t 16), (.t 17)])⟩ ::
⟨(some 19), none, (.op (.not (.t 18)))⟩ :: [])) (.cond (.t 19) (.seq (.reg (
    ⟨(some 20), none, (.op (.build [Value.int .i64 0, Value.int .i64 0] []))⟩ ::
⟨none, none, (.op (.store 2 (.t 6) (.t 20)))⟩ ::
⟨(some 7), none, (.op (.mv (.c (Value.int .i64 19))))⟩ :: [])) .ret) .skip)) (.seq (.reg (
    ⟨(some 21), none, (.op (.loadn 3 (.t 3)))⟩ ::
⟨(some 22), none, (.op (.mv (.t 1)))⟩ ::
⟨(some 23), none, (.op (.loadn 2 (.t 5)))⟩ ::
⟨(some 24), none, (.call (.c (Value.func (.func 53) #[] #[])) [(.t 21), (.t 22), (.t 23)])⟩ ::
⟨none, none, (.op (.store 2 (.t 6) (.t 24)))⟩ ::
⟨(some 7), none, (.op (.mv (.c (Value.int .i64 0))))⟩ :: [])) .ret))))
def r16 : List ResultVar := [.cell 6 32, .tmp 7]
set_option maxRecDepth 1000000 in
set_option maxHeartbeats 4000000 in
theorem fun16 : Fun Try.prog 16 25 3 a16 r16 :=
  ⟨rfl, Try.f16, _, rfl, rfl, rfl, by decide, rfl, rfl, rfl⟩
/-- tumblehome/chart.Span -/
noncomputable def a17 : ACode := (.seq (.reg (
    ⟨(some 2), none, (.op (.box (.t 0) 25))⟩ ::
⟨(some 3), none, (.op (.box (.t 1) 28))⟩ ::
⟨(some 4), none, (.op (.alloc [Value.int .i64 0, Value.int .i64 0, Value.int .i64 0, Value.int .i64 0] 37))⟩ ::
⟨(some 5), none, (.op (.mv (.c (Value.int .i64 0))))⟩ :: [])) (.seq (.reg (
    ⟨(some 9), none, (.op (.loadn 3 (.t 2)))⟩ ::
⟨(some 10), none, (.op (.loadn 2 (.t 3)))⟩ ::
⟨(some 11), none, (.op (.bslice [Value.int .i64 0, Value.int .i64 0] [(0, 2, (.t 10))] 1 28))⟩ ::
⟨(some 12), none, (.call (.c (Value.func (.func 54) #[] #[])) [(.t 9), (.t 11)])⟩ ::
⟨(some 8), none, (.op (.mv (.t 12)))⟩ ::
⟨(some 13), none, (.op (.extract (.t 8) 0))⟩ ::
⟨(some 14), none, (.op (.extract (.t 8) 1))⟩ ::
⟨(some 6), none, (.op (.alloc [Value.slice none 0 0, Value.slice none 0 0, Value.slice none 0 0] 84))⟩ ::
⟨none, none, (.op (.store 3 (.t 6) (.t 13)))⟩ ::
⟨(some 7), none, (.op (.mv (.t 14)))⟩ :: [])) (.seq (.seq (.reg (
    ⟨(some 15), none, (.op (.mv (.t 7)))⟩ ::
⟨(some 16), none, (.op (.int .neq (.t 15) (.c (Value.int .i64 0))))⟩ :: [])) (.cond (.t 16) (.seq (.reg (
    ⟨(some 17), none, (.op (.build [Value.int .i64 0, Value.int .i64 0, Value.int .i64 0, Value.int .i64 0] []))⟩ ::
⟨(some 18), none, (.op (.mv (.t 7)))⟩ ::
⟨none, none, (.op (.store 4 (.t 4) (.t 17)))⟩ ::
⟨(some 5), none, (.op (.mv (.t 18)))⟩ :: [])) .ret) .skip)) (.seq (.dreg (
    ⟨(some 19), none, (.op (.loadn 3 (.t 6)))⟩ ::
⟨(some 20), none, (.op (.loadn 2 (.t 3)))⟩ ::
⟨(some 21), none, (.op (.loadn 3 (.t 6)))⟩ ::
⟨(some 22), none, (.op (.mkfn (Fn.func 55) [(.t 21)] []))⟩ ::
⟨(some 23), none, (.call (.c (Value.func (.func 50) #[] #[])) [(.t 19), (.t 20), (.t 22)])⟩ ::
⟨(some 24), none, (.op (.loadn 3 (.t 6)))⟩ ::
⟨(some 25), none, (.op (.loadn 2 (.t 3)))⟩ ::
⟨(some 26), none, (.op (.loadn 3 (.t 6)))⟩ ::
⟨(some 27), none, (.op (.mkfn (Fn.func 56) [(.t 26)] []))⟩ ::
⟨(some 28), none, (.call (.c (Value.func (.func 50) #[] #[])) [(.t 24), (.t 25), (.t 27)])⟩ ::
⟨(some 29), none, (.op (.build [Value.int .i64 0, Value.int .i64 0, Value.int .i64 0, Value.int .i64 0] [(0, 2, (.t 23)), (2, 2, (.t 28))]))⟩ ::
⟨none, none, (.op (.store 4 (.t 4) (.t 29)))⟩ ::
⟨(some 5), none, (.op (.mv (.c (Value.int .i64 0))))⟩ :: []) []) .ret))))
def r17 : List ResultVar := [.cell 4 37, .tmp 5]
set_option maxRecDepth 1000000 in
set_option maxHeartbeats 4000000 in
theorem fun17 : Fun Try.prog 17 30 2 a17 r17 :=
  ⟨rfl, Try.f17, _, rfl, rfl, rfl, by decide, rfl, rfl, rfl⟩
/-- tumblehome/chart.CheckChart -/
noncomputable def a19 : ACode := (.seq (.reg (
    ⟨(some 1), none, (.op (.box (.t 0) 25))⟩ ::
⟨(some 2), none, (.op (.mv (.c (Value.int .i64 0))))⟩ :: [])) (.seq (.block 0 (.seq (.reg (
    ⟨(some 10), none, (.op (.faddr 0 (.t 1)))⟩ ::
⟨(some 11), none, (.op (.load1 (.t 10)))⟩ ::
⟨(some 12), none, (.op (.len (.t 11)))⟩ ::
⟨(some 13), none, (.op (.int .lss (.t 12) (.c (Value.int .i64 2))))⟩ ::
⟨(some 14), none, (.op (.mv (.t 13)))⟩ ::
⟨(some 15), (some (14, false)), (.op (.faddr 0 (.t 1)))⟩ ::
⟨(some 16), (some (14, false)), (.op (.load1 (.t 15)))⟩ ::
⟨(some 17), (some (14, false)), (.op (.len (.t 16)))⟩ ::
⟨(some 18), (some (14, false)), (.op (.int .gtr (.t 17) (.c (Value.int .i64 8))))⟩ ::
⟨(some 19), none, (.op (.pick (.t 14) (.c (Value.bool true)) (.t 18)))⟩ ::
⟨(some 20), none, (.op (.mv (.t 19)))⟩ ::
⟨(some 21), (some (20, false)), (.op (.faddr 1 (.t 1)))⟩ ::
⟨(some 22), (some (20, false)), (.op (.load1 (.t 21)))⟩ ::
⟨(some 23), (some (20, false)), (.op (.len (.t 22)))⟩ ::
⟨(some 24), (some (20, false)), (.op (.int .lss (.t 23) (.c (Value.int .i64 2))))⟩ ::
⟨(some 25), none, (.op (.pick (.t 20) (.c (Value.bool true)) (.t 24)))⟩ ::
⟨(some 26), none, (.op (.mv (.t 25)))⟩ ::
⟨(some 27), (some (26, false)), (.op (.faddr 1 (.t 1)))⟩ ::
⟨(some 28), (some (26, false)), (.op (.load1 (.t 27)))⟩ ::
⟨(some 29), (some (26, false)), (.op (.len (.t 28)))⟩ ::
⟨(some 30), (some (26, false)), (.op (.int .gtr (.t 29) (.c (Value.int .i64 10))))⟩ ::
⟨(some 31), none, (.op (.pick (.t 26) (.c (Value.bool true)) (.t 30)))⟩ ::
⟨(some 9), none, (.op (.mv (.t 31)))⟩ :: [])) (.cond (.t 9) (.seq (.reg (
    ⟨(some 2), none, (.op (.mv (.c (Value.int .i64 6))))⟩ :: [])) .ret) (.seq (.reg (
    ⟨(some 33), none, (.op (.faddr 2 (.t 1)))⟩ ::
⟨(some 34), none, (.op (.load1 (.t 33)))⟩ ::
⟨(some 35), none, (.op (.len (.t 34)))⟩ ::
⟨(some 36), none, (.op (.faddr 0 (.t 1)))⟩ ::
⟨(some 37), none, (.op (.load1 (.t 36)))⟩ ::
⟨(some 38), none, (.op (.len (.t 37)))⟩ ::
⟨(some 39), none, (.op (.int .neq (.t 35) (.t 38)))⟩ ::
⟨(some 40), none, (.op (.mv (.t 39)))⟩ ::
⟨(some 41), (some (40, false)), (.op (.faddr 2 (.t 1)))⟩ ::
⟨(some 42), (some (40, false)), (.op (.load1 (.t 41)))⟩ ::
⟨(some 43), (some (40, false)), (.op (.mkfn (Fn.func 59) [] [(.t 1)]))⟩ ::
⟨(some 44), (some (40, false)), (.call (.c (Value.func (.func 58) #[] #[])) [(.t 42), (.t 43)])⟩ ::
⟨(some 45), none, (.op (.pick (.t 40) (.c (Value.bool true)) (.t 44)))⟩ ::
⟨(some 32), none, (.op (.mv (.t 45)))⟩ :: [])) (.cond (.t 32) (.seq (.reg (
    ⟨(some 2), none, (.op (.mv (.c (Value.int .i64 15))))⟩ :: [])) .ret) (.seq (.reg (
    ⟨(some 47), none, (.op (.faddr 0 (.t 1)))⟩ ::
⟨(some 48), none, (.op (.load1 (.t 47)))⟩ ::
⟨(some 49), none, (.call (.c (Value.func (.func 60) #[] #[])) [(.t 48)])⟩ ::
⟨(some 50), none, (.op (.not (.t 49)))⟩ ::
⟨(some 51), none, (.op (.mv (.t 50)))⟩ ::
⟨(some 52), (some (51, false)), (.op (.faddr 1 (.t 1)))⟩ ::
⟨(some 53), (some (51, false)), (.op (.load1 (.t 52)))⟩ ::
⟨(some 54), (some (51, false)), (.call (.c (Value.func (.func 60) #[] #[])) [(.t 53)])⟩ ::
⟨(some 55), (some (51, false)), (.op (.not (.t 54)))⟩ ::
⟨(some 56), none, (.op (.pick (.t 51) (.c (Value.bool true)) (.t 55)))⟩ ::
⟨(some 46), none, (.op (.mv (.t 56)))⟩ :: [])) (.cond (.t 46) (.seq (.reg (
    ⟨(some 2), none, (.op (.mv (.c (Value.int .i64 2))))⟩ :: [])) .ret) .skip))))))) (.seq (.reg (
    ⟨(some 3), none, (.op (.mv (.c (Value.bool true))))⟩ :: [])) (.seq (.seq (.reg (
    ⟨(some 57), none, (.op (.faddr 2 (.t 1)))⟩ ::
⟨(some 58), none, (.op (.load1 (.t 57)))⟩ ::
⟨(some 59), none, (.op (.len (.t 58)))⟩ ::
⟨(some 60), none, (.op (.mv (.c (Value.int .i64 0))))⟩ :: [])) (.block 1 (.loop (.seq (.reg (
    ⟨(some 61), none, (.op (.int .lss (.t 60) (.t 59)))⟩ :: [])) (.seq (.cond (.t 61) .skip (.exit 1)) (.seq (.block 2 (.seq (.reg (
    ⟨(some 62), none, (.op (.ixsl 1 (.t 58) (.t 60)))⟩ ::
⟨(some 63), none, (.op (.load1 (.t 62)))⟩ ::
⟨(some 5), none, (.op (.mv (.t 63)))⟩ :: [])) (.seq (.reg (
    ⟨(some 64), none, (.op (.build [Value.int .i64 0, Value.int .i64 0] [(0, 1, (.c (Value.int .i64 100000))), (1, 1, (.c (Value.int .i64 100000)))]))⟩ ::
⟨(some 6), none, (.op (.alloc [Value.int .i64 0, Value.int .i64 0] 65))⟩ ::
⟨none, none, (.op (.store 2 (.t 6) (.t 64)))⟩ :: [])) (.seq (.reg (
    ⟨(some 65), none, (.op (.mv (.t 5)))⟩ ::
⟨(some 66), none, (.op (.len (.t 65)))⟩ ::
⟨(some 67), none, (.op (.mv (.c (Value.int .i64 0))))⟩ :: [])) (.block 3 (.loop (.seq (.reg (
    ⟨(some 68), none, (.op (.int .lss (.t 67) (.t 66)))⟩ :: [])) (.seq (.cond (.t 68) .skip (.exit 3)) (.seq (.block 4 (.seq (.reg (
    ⟨(some 69), none, (.op (.ixsl 2 (.t 65) (.t 67)))⟩ ::
⟨(some 70), none, (.op (.loadn 2 (.t 69)))⟩ ::
⟨(some 8), none, (.op (.alloc [Value.int .i64 0, Value.int .i64 0] 65))⟩ ::
⟨none, none, (.op (.store 2 (.t 8) (.t 70)))⟩ :: [])) (.seq (.seq (.reg (
    ⟨(some 71), none, (.op (.faddr 0 (.t 8)))⟩ ::
⟨(some 72), none, (.op (.load1 (.t 71)))⟩ ::
⟨(some 73), none, (.op (.faddr 1 (.t 8)))⟩ ::
⟨(some 74), none, (.op (.load1 (.t 73)))⟩ ::
⟨(some 75), none, (.op (.faddr 1 (.t 8)))⟩ ::
⟨(some 76), none, (.op (.load1 (.t 75)))⟩ ::
⟨(some 77), none, (.op (.faddr 0 (.t 8)))⟩ ::
⟨(some 78), none, (.op (.load1 (.t 77)))⟩ ::
⟨(some 79), none, (.op (.int .sub (.t 76) (.t 78)))⟩ ::
⟨(some 80), none, (.op (.bslice [Value.int .i64 0, Value.int .i64 0, Value.int .i64 0] [(0, 1, (.t 72)), (1, 1, (.t 74)), (2, 1, (.t 79))] 3 2))⟩ ::
⟨(some 81), none, (.call (.c (Value.func (.func 61) #[] #[])) [(.c (Value.int .i64 100000)), (.t 80)])⟩ ::
⟨(some 82), none, (.op (.not (.t 81)))⟩ :: [])) (.cond (.t 82) (.seq (.reg (
    ⟨(some 2), none, (.op (.mv (.c (Value.int .i64 2))))⟩ :: [])) .ret) .skip)) (.seq (.reg (
    ⟨(some 83), none, (.op (.mv (.t 3)))⟩ ::
⟨(some 84), none, (.op (.mv (.t 83)))⟩ ::
⟨(some 85), (some (84, true)), (.op (.faddr 0 (.t 8)))⟩ ::
⟨(some 86), (some (84, true)), (.op (.load1 (.t 85)))⟩ ::
⟨(some 87), (some (84, true)), (.op (.faddr 0 (.t 6)))⟩ ::
⟨(some 88), (some (84, true)), (.op (.load1 (.t 87)))⟩ ::
⟨(some 89), (some (84, true)), (.op (.int .leq (.t 86) (.t 88)))⟩ ::
⟨(some 90), none, (.op (.pick (.t 84) (.t 89) (.c (Value.bool false))))⟩ ::
⟨(some 91), none, (.op (.mv (.t 90)))⟩ ::
⟨(some 92), (some (91, true)), (.op (.faddr 1 (.t 8)))⟩ ::
⟨(some 93), (some (91, true)), (.op (.load1 (.t 92)))⟩ ::
⟨(some 94), (some (91, true)), (.op (.faddr 1 (.t 6)))⟩ ::
⟨(some 95), (some (91, true)), (.op (.load1 (.t 94)))⟩ ::
⟨(some 96), (some (91, true)), (.op (.int .leq (.t 93) (.t 95)))⟩ ::
⟨(some 97), none, (.op (.pick (.t 91) (.t 96) (.c (Value.bool false))))⟩ ::
⟨(some 3), none, (.op (.mv (.t 97)))⟩ :: [])) (.reg (
    ⟨(some 98), none, (.op (.loadn 2 (.t 8)))⟩ ::
⟨none, none, (.op (.store 2 (.t 6) (.t 98)))⟩ :: [])))))) (.reg (
    ⟨(some 99), none, (.op (.int .add (.t 67) (.c (Value.int .i64 1))))⟩ ::
⟨(some 67), none, (.op (.mv (.t 99)))⟩ :: []))))))))))) (.reg (
    ⟨(some 100), none, (.op (.int .add (.t 60) (.c (Value.int .i64 1))))⟩ ::
⟨(some 60), none, (.op (.mv (.t 100)))⟩ :: [])))))))) (.seq (.seq (.reg (
    ⟨(some 101), none, (.op (.mv (.t 3)))⟩ ::
⟨(some 102), none, (.op (.not (.t 101)))⟩ :: [])) (.cond (.t 102) (.seq (.reg (
    ⟨(some 2), none, (.op (.mv (.c (Value.int .i64 16))))⟩ :: [])) .ret) .skip)) (.seq (.reg (
    ⟨(some 2), none, (.op (.mv (.c (Value.int .i64 0))))⟩ :: [])) .ret))))))
def r19 : List ResultVar := [.tmp 2]
set_option maxRecDepth 1000000 in
set_option maxHeartbeats 4000000 in
theorem fun19 : Fun Try.prog 19 103 1 a19 r19 :=
  ⟨rfl, Try.f19, _, rfl, rfl, rfl, by decide, rfl, rfl, rfl⟩
/-- tumblehome/tumblehomeref08.CheckChart -/
noncomputable def a20 : ACode := (.seq (.reg (
    ⟨(some 1), none, (.op (.box (.t 0) 25))⟩ ::
⟨(some 2), none, (.op (.mv (.c (Value.int .i64 0))))⟩ :: [])) (.seq (.seq (.reg (
    ⟨(some 9), none, (.op (.faddr 0 (.t 1)))⟩ ::
⟨(some 10), none, (.op (.load1 (.t 9)))⟩ ::
⟨(some 11), none, (.op (.len (.t 10)))⟩ ::
⟨(some 12), none, (.op (.int .lss (.t 11) (.c (Value.int .i64 2))))⟩ ::
⟨(some 13), none, (.op (.mv (.t 12)))⟩ ::
⟨(some 14), (some (13, false)), (.op (.faddr 0 (.t 1)))⟩ ::
⟨(some 15), (some (13, false)), (.op (.load1 (.t 14)))⟩ ::
⟨(some 16), (some (13, false)), (.op (.len (.t 15)))⟩ ::
⟨(some 17), (some (13, false)), (.op (.int .gtr (.t 16) (.c (Value.int .i64 8))))⟩ ::
⟨(some 18), none, (.op (.pick (.t 13) (.c (Value.bool true)) (.t 17)))⟩ ::
⟨(some 19), none, (.op (.mv (.t 18)))⟩ ::
⟨(some 20), (some (19, false)), (.op (.faddr 1 (.t 1)))⟩ ::
⟨(some 21), (some (19, false)), (.op (.load1 (.t 20)))⟩ ::
⟨(some 22), (some (19, false)), (.op (.len (.t 21)))⟩ ::
⟨(some 23), (some (19, false)), (.op (.int .lss (.t 22) (.c (Value.int .i64 2))))⟩ ::
⟨(some 24), none, (.op (.pick (.t 19) (.c (Value.bool true)) (.t 23)))⟩ ::
⟨(some 25), none, (.op (.mv (.t 24)))⟩ ::
⟨(some 26), (some (25, false)), (.op (.faddr 1 (.t 1)))⟩ ::
⟨(some 27), (some (25, false)), (.op (.load1 (.t 26)))⟩ ::
⟨(some 28), (some (25, false)), (.op (.len (.t 27)))⟩ ::
⟨(some 29), (some (25, false)), (.op (.int .gtr (.t 28) (.c (Value.int .i64 10))))⟩ ::
⟨(some 30), none, (.op (.pick (.t 25) (.c (Value.bool true)) (.t 29)))⟩ :: [])) (.cond (.t 30) (.seq (.reg (
    ⟨(some 2), none, (.op (.mv (.c (Value.int .i64 6))))⟩ :: [])) .ret) .skip)) (.seq (.seq (.reg (
    ⟨(some 31), none, (.op (.faddr 2 (.t 1)))⟩ ::
⟨(some 32), none, (.op (.load1 (.t 31)))⟩ ::
⟨(some 33), none, (.op (.len (.t 32)))⟩ ::
⟨(some 34), none, (.op (.faddr 0 (.t 1)))⟩ ::
⟨(some 35), none, (.op (.load1 (.t 34)))⟩ ::
⟨(some 36), none, (.op (.len (.t 35)))⟩ ::
⟨(some 37), none, (.op (.int .neq (.t 33) (.t 36)))⟩ :: [])) (.cond (.t 37) (.seq (.reg (
    ⟨(some 2), none, (.op (.mv (.c (Value.int .i64 15))))⟩ :: [])) .ret) .skip)) (.seq (.seq (.reg (
    ⟨(some 3), none, (.op (.mv (.c (Value.int .i64 0))))⟩ :: [])) (.block 0 (.loop (.seq (.seq (.reg (
    ⟨(some 38), none, (.op (.mv (.t 3)))⟩ ::
⟨(some 39), none, (.op (.faddr 2 (.t 1)))⟩ ::
⟨(some 40), none, (.op (.load1 (.t 39)))⟩ ::
⟨(some 41), none, (.op (.len (.t 40)))⟩ ::
⟨(some 42), none, (.op (.int .lss (.t 38) (.t 41)))⟩ :: [])) (.cond (.t 42) .skip (.exit 0))) (.seq (.block 1 (.seq (.dreg (
    ⟨(some 45), none, (.op (.faddr 2 (.t 1)))⟩ ::
⟨(some 46), none, (.op (.load1 (.t 45)))⟩ ::
⟨(some 47), none, (.op (.mv (.t 3)))⟩ ::
⟨(some 48), none, (.op (.ixsl 1 (.t 46) (.t 47)))⟩ ::
⟨(some 49), none, (.op (.load1 (.t 48)))⟩ ::
⟨(some 50), none, (.op (.len (.t 49)))⟩ ::
⟨(some 51), none, (.op (.faddr 1 (.t 1)))⟩ ::
⟨(some 52), none, (.op (.load1 (.t 51)))⟩ ::
⟨(some 53), none, (.op (.len (.t 52)))⟩ ::
⟨(some 54), none, (.op (.int .neq (.t 50) (.t 53)))⟩ :: []) []) (.cond (.t 54) (.seq (.reg (
    ⟨(some 2), none, (.op (.mv (.c (Value.int .i64 15))))⟩ :: [])) .ret) .skip))) (.reg (
    ⟨(some 43), none, (.op (.mv (.t 3)))⟩ ::
⟨(some 44), none, (.op (.int .add (.t 43) (.c (Value.int .i64 1))))⟩ ::
⟨(some 3), none, (.op (.mv (.t 44)))⟩ :: []))))))) (.seq (.seq (.reg (
    ⟨(some 55), none, (.op (.faddr 0 (.t 1)))⟩ ::
⟨(some 56), none, (.op (.load1 (.t 55)))⟩ ::
⟨(some 57), none, (.call (.c (Value.func (.func 62) #[] #[])) [(.t 56)])⟩ ::
⟨(some 58), none, (.op (.not (.t 57)))⟩ ::
⟨(some 59), none, (.op (.mv (.t 58)))⟩ ::
⟨(some 60), (some (59, false)), (.op (.faddr 1 (.t 1)))⟩ ::
⟨(some 61), (some (59, false)), (.op (.load1 (.t 60)))⟩ ::
⟨(some 62), (some (59, false)), (.call (.c (Value.func (.func 62) #[] #[])) [(.t 61)])⟩ ::
⟨(some 63), (some (59, false)), (.op (.not (.t 62)))⟩ ::
⟨(some 64), none, (.op (.pick (.t 59) (.c (Value.bool true)) (.t 63)))⟩ :: [])) (.cond (.t 64) (.seq (.reg (
    ⟨(some 2), none, (.op (.mv (.c (Value.int .i64 2))))⟩ :: [])) .ret) .skip)) (.seq (.seq (.reg (
    ⟨(some 4), none, (.op (.mv (.c (Value.int .i64 0))))⟩ :: [])) (.block 2 (.loop (.seq (.seq (.reg (
    ⟨(some 65), none, (.op (.mv (.t 4)))⟩ ::
⟨(some 66), none, (.op (.faddr 2 (.t 1)))⟩ ::
⟨(some 67), none, (.op (.load1 (.t 66)))⟩ ::
⟨(some 68), none, (.op (.len (.t 67)))⟩ ::
⟨(some 69), none, (.op (.int .lss (.t 65) (.t 68)))⟩ :: [])) (.cond (.t 69) .skip (.exit 2))) (.seq (.block 3 (.seq (.reg (
    ⟨(some 5), none, (.op (.mv (.c (Value.int .i64 0))))⟩ :: [])) (.block 4 (.loop (.seq (.seq (.reg (
    ⟨(some 72), none, (.op (.mv (.t 5)))⟩ ::
⟨(some 73), none, (.op (.faddr 2 (.t 1)))⟩ ::
⟨(some 74), none, (.op (.load1 (.t 73)))⟩ ::
⟨(some 75), none, (.op (.mv (.t 4)))⟩ ::
⟨(some 76), none, (.op (.ixsl 1 (.t 74) (.t 75)))⟩ ::
⟨(some 77), none, (.op (.load1 (.t 76)))⟩ ::
⟨(some 78), none, (.op (.len (.t 77)))⟩ ::
⟨(some 79), none, (.op (.int .lss (.t 72) (.t 78)))⟩ :: [])) (.cond (.t 79) .skip (.exit 4))) (.seq (.block 5 (.seq (.reg (
    ⟨(some 82), none, (.op (.faddr 2 (.t 1)))⟩ ::
⟨(some 83), none, (.op (.load1 (.t 82)))⟩ ::
⟨(some 84), none, (.op (.mv (.t 4)))⟩ ::
⟨(some 85), none, (.op (.ixsl 1 (.t 83) (.t 84)))⟩ ::
⟨(some 86), none, (.op (.load1 (.t 85)))⟩ ::
⟨(some 87), none, (.op (.mv (.t 5)))⟩ ::
⟨(some 88), none, (.op (.ixsl 2 (.t 86) (.t 87)))⟩ ::
⟨(some 89), none, (.op (.loadn 2 (.t 88)))⟩ ::
⟨(some 6), none, (.op (.alloc [Value.int .i64 0, Value.int .i64 0] 65))⟩ ::
⟨none, none, (.op (.store 2 (.t 6) (.t 89)))⟩ :: [])) (.seq (.reg (
    ⟨(some 90), none, (.op (.faddr 0 (.t 6)))⟩ ::
⟨(some 91), none, (.op (.load1 (.t 90)))⟩ ::
⟨(some 92), none, (.op (.int .lss (.t 91) (.c (Value.int .i64 0))))⟩ ::
⟨(some 93), none, (.op (.mv (.t 92)))⟩ ::
⟨(some 94), (some (93, false)), (.op (.faddr 0 (.t 6)))⟩ ::
⟨(some 95), (some (93, false)), (.op (.load1 (.t 94)))⟩ ::
⟨(some 96), (some (93, false)), (.op (.faddr 1 (.t 6)))⟩ ::
⟨(some 97), (some (93, false)), (.op (.load1 (.t 96)))⟩ ::
⟨(some 98), (some (93, false)), (.op (.int .gtr (.t 95) (.t 97)))⟩ ::
⟨(some 99), none, (.op (.pick (.t 93) (.c (Value.bool true)) (.t 98)))⟩ ::
⟨(some 100), none, (.op (.mv (.t 99)))⟩ ::
⟨(some 101), (some (100, false)), (.op (.faddr 1 (.t 6)))⟩ ::
⟨(some 102), (some (100, false)), (.op (.load1 (.t 101)))⟩ ::
⟨(some 103), (some (100, false)), (.op (.int .gtr (.t 102) (.c (Value.int .i64 100000))))⟩ ::
⟨(some 104), none, (.op (.pick (.t 100) (.c (Value.bool true)) (.t 103)))⟩ :: [])) (.cond (.t 104) (.seq (.reg (
    ⟨(some 2), none, (.op (.mv (.c (Value.int .i64 2))))⟩ :: [])) .ret) .skip)))) (.reg (
    ⟨(some 80), none, (.op (.mv (.t 5)))⟩ ::
⟨(some 81), none, (.op (.int .add (.t 80) (.c (Value.int .i64 1))))⟩ ::
⟨(some 5), none, (.op (.mv (.t 81)))⟩ :: [])))))))) (.reg (
    ⟨(some 70), none, (.op (.mv (.t 4)))⟩ ::
⟨(some 71), none, (.op (.int .add (.t 70) (.c (Value.int .i64 1))))⟩ ::
⟨(some 4), none, (.op (.mv (.t 71)))⟩ :: []))))))) (.seq (.seq (.reg (
    ⟨(some 7), none, (.op (.mv (.c (Value.int .i64 0))))⟩ :: [])) (.block 6 (.loop (.seq (.seq (.reg (
    ⟨(some 105), none, (.op (.mv (.t 7)))⟩ ::
⟨(some 106), none, (.op (.faddr 2 (.t 1)))⟩ ::
⟨(some 107), none, (.op (.load1 (.t 106)))⟩ ::
⟨(some 108), none, (.op (.len (.t 107)))⟩ ::
⟨(some 109), none, (.op (.int .lss (.t 105) (.t 108)))⟩ :: [])) (.cond (.t 109) .skip (.exit 6))) (.seq (.block 7 (.seq (.reg (
    ⟨(some 8), none, (.op (.mv (.c (Value.int .i64 1))))⟩ :: [])) (.block 8 (.loop (.seq (.seq (.reg (
    ⟨(some 112), none, (.op (.mv (.t 8)))⟩ ::
⟨(some 113), none, (.op (.faddr 2 (.t 1)))⟩ ::
⟨(some 114), none, (.op (.load1 (.t 113)))⟩ ::
⟨(some 115), none, (.op (.mv (.t 7)))⟩ ::
⟨(some 116), none, (.op (.ixsl 1 (.t 114) (.t 115)))⟩ ::
⟨(some 117), none, (.op (.load1 (.t 116)))⟩ ::
⟨(some 118), none, (.op (.len (.t 117)))⟩ ::
⟨(some 119), none, (.op (.int .lss (.t 112) (.t 118)))⟩ :: [])) (.cond (.t 119) .skip (.exit 8))) (.seq (.block 9 (.seq (.dreg (
    ⟨(some 122), none, (.op (.faddr 2 (.t 1)))⟩ ::
⟨(some 123), none, (.op (.load1 (.t 122)))⟩ ::
⟨(some 124), none, (.op (.mv (.t 7)))⟩ ::
⟨(some 125), none, (.op (.ixsl 1 (.t 123) (.t 124)))⟩ ::
⟨(some 126), none, (.op (.load1 (.t 125)))⟩ ::
⟨(some 127), none, (.op (.mv (.t 8)))⟩ ::
⟨(some 128), none, (.op (.ixsl 2 (.t 126) (.t 127)))⟩ ::
⟨(some 129), none, (.op (.faddr 0 (.t 128)))⟩ ::
⟨(some 130), none, (.op (.load1 (.t 129)))⟩ ::
⟨(some 131), none, (.op (.faddr 2 (.t 1)))⟩ ::
⟨(some 132), none, (.op (.load1 (.t 131)))⟩ ::
⟨(some 133), none, (.op (.mv (.t 7)))⟩ ::
⟨(some 134), none, (.op (.ixsl 1 (.t 132) (.t 133)))⟩ ::
⟨(some 135), none, (.op (.load1 (.t 134)))⟩ ::
⟨(some 136), none, (.op (.mv (.t 8)))⟩ ::
⟨(some 137), none, (.op (.int .sub (.t 136) (.c (Value.int .i64 1))))⟩ ::
⟨(some 138), none, (.op (.ixsl 2 (.t 135) (.t 137)))⟩ ::
⟨(some 139), none, (.op (.faddr 0 (.t 138)))⟩ ::
⟨(some 140), none, (.op (.load1 (.t 139)))⟩ ::
⟨(some 141), none, (.op (.int .gtr (.t 130) (.t 140)))⟩ ::
⟨(some 142), none, (.op (.mv (.t 141)))⟩ ::
⟨(some 143), (some (142, false)), (.op (.faddr 2 (.t 1)))⟩ ::
⟨(some 144), (some (142, false)), (.op (.load1 (.t 143)))⟩ ::
⟨(some 145), (some (142, false)), (.op (.mv (.t 7)))⟩ ::
⟨(some 146), (some (142, false)), (.op (.ixsl 1 (.t 144) (.t 145)))⟩ ::
⟨(some 147), (some (142, false)), (.op (.load1 (.t 146)))⟩ ::
⟨(some 148), (some (142, false)), (.op (.mv (.t 8)))⟩ ::
⟨(some 149), (some (142, false)), (.op (.ixsl 2 (.t 147) (.t 148)))⟩ ::
⟨(some 150), (some (142, false)), (.op (.faddr 1 (.t 149)))⟩ ::
⟨(some 151), (some (142, false)), (.op (.load1 (.t 150)))⟩ ::
⟨(some 152), (some (142, false)), (.op (.faddr 2 (.t 1)))⟩ ::
⟨(some 153), (some (142, false)), (.op (.load1 (.t 152)))⟩ ::
⟨(some 154), (some (142, false)), (.op (.mv (.t 7)))⟩ ::
⟨(some 155), (some (142, false)), (.op (.ixsl 1 (.t 153) (.t 154)))⟩ ::
⟨(some 156), (some (142, false)), (.op (.load1 (.t 155)))⟩ ::
⟨(some 157), (some (142, false)), (.op (.mv (.t 8)))⟩ ::
⟨(some 158), (some (142, false)), (.op (.int .sub (.t 157) (.c (Value.int .i64 1))))⟩ ::
⟨(some 159), (some (142, false)), (.op (.ixsl 2 (.t 156) (.t 158)))⟩ ::
⟨(some 160), (some (142, false)), (.op (.faddr 1 (.t 159)))⟩ ::
⟨(some 161), (some (142, false)), (.op (.load1 (.t 160)))⟩ ::
⟨(some 162), (some (142, false)), (.op (.int .gtr (.t 151) (.t 161)))⟩ ::
⟨(some 163), none, (.op (.pick (.t 142) (.c (Value.bool true)) (.t 162)))⟩ :: []) []) (.cond (.t 163) (.seq (.reg (
    ⟨(some 2), none, (.op (.mv (.c (Value.int .i64 16))))⟩ :: [])) .ret) .skip))) (.reg (
    ⟨(some 120), none, (.op (.mv (.t 8)))⟩ ::
⟨(some 121), none, (.op (.int .add (.t 120) (.c (Value.int .i64 1))))⟩ ::
⟨(some 8), none, (.op (.mv (.t 121)))⟩ :: [])))))))) (.reg (
    ⟨(some 110), none, (.op (.mv (.t 7)))⟩ ::
⟨(some 111), none, (.op (.int .add (.t 110) (.c (Value.int .i64 1))))⟩ ::
⟨(some 7), none, (.op (.mv (.t 111)))⟩ :: []))))))) (.seq (.reg (
    ⟨(some 2), none, (.op (.mv (.c (Value.int .i64 0))))⟩ :: [])) .ret))))))))
def r20 : List ResultVar := [.tmp 2]
set_option maxRecDepth 1000000 in
set_option maxHeartbeats 4000000 in
theorem fun20 : Fun Try.prog 20 164 1 a20 r20 :=
  ⟨rfl, Try.f20, _, rfl, rfl, rfl, by decide, rfl, rfl, rfl⟩
/-- tumblehome/chart.CheckTrue -/
noncomputable def a21 : ACode := (.seq (.reg (
    ⟨(some 2), none, (.op (.box (.t 0) 25))⟩ ::
⟨(some 4), none, (.op (.mv (.c (Value.int .i64 0))))⟩ :: [])) (.seq (.seq (.reg (
    ⟨(some 12), none, (.op (.loadn 3 (.t 2)))⟩ ::
⟨(some 13), none, (.call (.c (Value.func (.func 19) #[] #[])) [(.t 12)])⟩ ::
⟨(some 5), none, (.op (.mv (.t 13)))⟩ :: [])) (.seq (.reg (
    ⟨(some 14), none, (.op (.mv (.t 5)))⟩ ::
⟨(some 15), none, (.op (.int .neq (.t 14) (.c (Value.int .i64 0))))⟩ :: [])) (.cond (.t 15) (.seq (.reg (
    ⟨(some 16), none, (.op (.mv (.t 5)))⟩ ::
⟨(some 4), none, (.op (.mv (.t 16)))⟩ :: [])) .ret) .skip))) (.seq (.seq (.reg (
    ⟨(some 17), none, (.op (.mv (.t 1)))⟩ ::
⟨(some 18), none, (.op (.len (.t 17)))⟩ ::
⟨(some 19), none, (.op (.faddr 2 (.t 2)))⟩ ::
⟨(some 20), none, (.op (.load1 (.t 19)))⟩ ::
⟨(some 21), none, (.op (.len (.t 20)))⟩ ::
⟨(some 22), none, (.op (.int .neq (.t 18) (.t 21)))⟩ :: [])) (.cond (.t 22) (.seq (.reg (
    ⟨(some 4), none, (.op (.mv (.c (Value.int .i64 15))))⟩ :: [])) .ret) .skip)) (.seq (.reg (
    ⟨(some 6), none, (.op (.mv (.c (Value.int .i64 0))))⟩ :: [])) (.seq (.seq (.reg (
    ⟨(some 23), none, (.op (.mv (.t 1)))⟩ ::
⟨(some 24), none, (.op (.len (.t 23)))⟩ ::
⟨(some 25), none, (.op (.mv (.c (Value.int .i64 0))))⟩ :: [])) (.block 0 (.loop (.seq (.reg (
    ⟨(some 26), none, (.op (.int .lss (.t 25) (.t 24)))⟩ :: [])) (.seq (.cond (.t 26) .skip (.exit 0)) (.seq (.block 1 (.seq (.reg (
    ⟨(some 27), none, (.op (.mv (.t 25)))⟩ ::
⟨(some 28), none, (.op (.ixsl 1 (.t 23) (.t 25)))⟩ ::
⟨(some 29), none, (.op (.load1 (.t 28)))⟩ ::
⟨(some 7), none, (.op (.mv (.t 27)))⟩ ::
⟨(some 8), none, (.op (.mv (.t 29)))⟩ :: [])) (.seq (.seq (.reg (
    ⟨(some 30), none, (.op (.mv (.t 8)))⟩ ::
⟨(some 31), none, (.op (.len (.t 30)))⟩ ::
⟨(some 32), none, (.op (.faddr 2 (.t 2)))⟩ ::
⟨(some 33), none, (.op (.load1 (.t 32)))⟩ ::
⟨(some 34), none, (.op (.mv (.t 7)))⟩ ::
⟨(some 35), none, (.op (.ixsl 1 (.t 33) (.t 34)))⟩ ::
⟨(some 36), none, (.op (.load1 (.t 35)))⟩ ::
⟨(some 37), none, (.op (.len (.t 36)))⟩ ::
⟨(some 38), none, (.op (.int .neq (.t 31) (.t 37)))⟩ :: [])) (.cond (.t 38) (.seq (.reg (
    ⟨(some 4), none, (.op (.mv (.c (Value.int .i64 15))))⟩ :: [])) .ret) .skip)) (.seq (.reg (
    ⟨(some 39), none, (.op (.mv (.t 8)))⟩ ::
⟨(some 40), none, (.op (.len (.t 39)))⟩ ::
⟨(some 41), none, (.op (.mv (.c (Value.int .i64 0))))⟩ :: [])) (.block 2 (.loop (.seq (.reg (
    ⟨(some 42), none, (.op (.int .lss (.t 41) (.t 40)))⟩ :: [])) (.seq (.cond (.t 42) .skip (.exit 2)) (.seq (.block 3 (.seq (.reg (
    ⟨(some 43), none, (.op (.mv (.t 41)))⟩ ::
⟨(some 44), none, (.op (.ixsl 1 (.t 39) (.t 41)))⟩ ::
⟨(some 45), none, (.op (.load1 (.t 44)))⟩ ::
⟨(some 9), none, (.op (.mv (.t 43)))⟩ ::
⟨(some 10), none, (.op (.mv (.t 45)))⟩ :: [])) (.seq (.reg (
    ⟨(some 46), none, (.op (.faddr 2 (.t 2)))⟩ ::
⟨(some 47), none, (.op (.load1 (.t 46)))⟩ ::
⟨(some 48), none, (.op (.mv (.t 7)))⟩ ::
⟨(some 49), none, (.op (.ixsl 1 (.t 47) (.t 48)))⟩ ::
⟨(some 50), none, (.op (.load1 (.t 49)))⟩ ::
⟨(some 51), none, (.op (.mv (.t 9)))⟩ ::
⟨(some 52), none, (.op (.ixsl 2 (.t 50) (.t 51)))⟩ ::
⟨(some 53), none, (.op (.loadn 2 (.t 52)))⟩ ::
⟨(some 11), none, (.op (.alloc [Value.int .i64 0, Value.int .i64 0] 65))⟩ ::
⟨none, none, (.op (.store 2 (.t 11) (.t 53)))⟩ :: [])) (.seq (.reg (
    ⟨(some 54), none, (.op (.mv (.t 10)))⟩ ::
⟨(some 55), none, (.op (.faddr 0 (.t 11)))⟩ ::
⟨(some 56), none, (.op (.load1 (.t 55)))⟩ ::
⟨(some 57), none, (.op (.int .lss (.t 54) (.t 56)))⟩ ::
⟨(some 58), none, (.op (.mv (.t 57)))⟩ ::
⟨(some 59), (some (58, false)), (.op (.mv (.t 10)))⟩ ::
⟨(some 60), (some (58, false)), (.op (.faddr 1 (.t 11)))⟩ ::
⟨(some 61), (some (58, false)), (.op (.load1 (.t 60)))⟩ ::
⟨(some 62), (some (58, false)), (.op (.int .gtr (.t 59) (.t 61)))⟩ ::
⟨(some 63), none, (.op (.pick (.t 58) (.c (Value.bool true)) (.t 62)))⟩ :: [])) (.cond (.t 63) (.reg (
    ⟨(some 6), none, (.op (.mv (.c (Value.int .i64 3))))⟩ :: [])) .skip))))) (.reg (
    ⟨(some 64), none, (.op (.int .add (.t 41) (.c (Value.int .i64 1))))⟩ ::
⟨(some 41), none, (.op (.mv (.t 64)))⟩ :: []))))))))))) (.reg (
    ⟨(some 65), none, (.op (.int .add (.t 25) (.c (Value.int .i64 1))))⟩ ::
⟨(some 25), none, (.op (.mv (.t 65)))⟩ :: [])))))))) (.seq (.reg (
    ⟨(some 66), none, (.op (.mv (.t 6)))⟩ ::
⟨(some 4), none, (.op (.mv (.t 66)))⟩ :: [])) .ret))))))
def r21 : List ResultVar := [.tmp 4]
set_option maxRecDepth 1000000 in
set_option maxHeartbeats 4000000 in
theorem fun21 : Fun Try.prog 21 67 2 a21 r21 :=
  ⟨rfl, Try.f21, _, rfl, rfl, rfl, by decide, rfl, rfl, rfl⟩
/-- tumblehome/tumblehomeref08.CheckTrue -/
noncomputable def a22 : ACode := (.seq (.reg (
    ⟨(some 2), none, (.op (.box (.t 0) 25))⟩ ::
⟨(some 4), none, (.op (.mv (.c (Value.int .i64 0))))⟩ :: [])) (.seq (.seq (.reg (
    ⟨(some 8), none, (.op (.loadn 3 (.t 2)))⟩ ::
⟨(some 9), none, (.call (.c (Value.func (.func 20) #[] #[])) [(.t 8)])⟩ ::
⟨(some 10), none, (.op (.int .neq (.t 9) (.c (Value.int .i64 0))))⟩ :: [])) (.cond (.t 10) (.seq (.reg (
    ⟨(some 11), none, (.op (.loadn 3 (.t 2)))⟩ ::
⟨(some 12), none, (.call (.c (Value.func (.func 20) #[] #[])) [(.t 11)])⟩ ::
⟨(some 4), none, (.op (.mv (.t 12)))⟩ :: [])) .ret) .skip)) (.seq (.seq (.reg (
    ⟨(some 13), none, (.op (.mv (.t 1)))⟩ ::
⟨(some 14), none, (.op (.len (.t 13)))⟩ ::
⟨(some 15), none, (.op (.faddr 2 (.t 2)))⟩ ::
⟨(some 16), none, (.op (.load1 (.t 15)))⟩ ::
⟨(some 17), none, (.op (.len (.t 16)))⟩ ::
⟨(some 18), none, (.op (.int .neq (.t 14) (.t 17)))⟩ :: [])) (.cond (.t 18) (.seq (.reg (
    ⟨(some 4), none, (.op (.mv (.c (Value.int .i64 15))))⟩ :: [])) .ret) .skip)) (.seq (.seq (.reg (
    ⟨(some 5), none, (.op (.mv (.c (Value.int .i64 0))))⟩ :: [])) (.block 0 (.loop (.seq (.seq (.reg (
    ⟨(some 19), none, (.op (.mv (.t 5)))⟩ ::
⟨(some 20), none, (.op (.mv (.t 1)))⟩ ::
⟨(some 21), none, (.op (.len (.t 20)))⟩ ::
⟨(some 22), none, (.op (.int .lss (.t 19) (.t 21)))⟩ :: [])) (.cond (.t 22) .skip (.exit 0))) (.seq (.block 1 (.seq (.dreg (
    ⟨(some 25), none, (.op (.mv (.t 1)))⟩ ::
⟨(some 26), none, (.op (.mv (.t 5)))⟩ ::
⟨(some 27), none, (.op (.ixsl 1 (.t 25) (.t 26)))⟩ ::
⟨(some 28), none, (.op (.load1 (.t 27)))⟩ ::
⟨(some 29), none, (.op (.len (.t 28)))⟩ ::
⟨(some 30), none, (.op (.faddr 2 (.t 2)))⟩ ::
⟨(some 31), none, (.op (.load1 (.t 30)))⟩ ::
⟨(some 32), none, (.op (.mv (.t 5)))⟩ ::
⟨(some 33), none, (.op (.ixsl 1 (.t 31) (.t 32)))⟩ ::
⟨(some 34), none, (.op (.load1 (.t 33)))⟩ ::
⟨(some 35), none, (.op (.len (.t 34)))⟩ ::
⟨(some 36), none, (.op (.int .neq (.t 29) (.t 35)))⟩ :: []) []) (.cond (.t 36) (.seq (.reg (
    ⟨(some 4), none, (.op (.mv (.c (Value.int .i64 15))))⟩ :: [])) .ret) .skip))) (.reg (
    ⟨(some 23), none, (.op (.mv (.t 5)))⟩ ::
⟨(some 24), none, (.op (.int .add (.t 23) (.c (Value.int .i64 1))))⟩ ::
⟨(some 5), none, (.op (.mv (.t 24)))⟩ :: []))))))) (.seq (.seq (.reg (
    ⟨(some 6), none, (.op (.mv (.c (Value.int .i64 0))))⟩ :: [])) (.block 2 (.loop (.seq (.seq (.reg (
    ⟨(some 37), none, (.op (.mv (.t 6)))⟩ ::
⟨(some 38), none, (.op (.mv (.t 1)))⟩ ::
⟨(some 39), none, (.op (.len (.t 38)))⟩ ::
⟨(some 40), none, (.op (.int .lss (.t 37) (.t 39)))⟩ :: [])) (.cond (.t 40) .skip (.exit 2))) (.seq (.block 3 (.seq (.reg (
    ⟨(some 7), none, (.op (.mv (.c (Value.int .i64 0))))⟩ :: [])) (.block 4 (.loop (.seq (.seq (.reg (
    ⟨(some 43), none, (.op (.mv (.t 7)))⟩ ::
⟨(some 44), none, (.op (.mv (.t 1)))⟩ ::
⟨(some 45), none, (.op (.mv (.t 6)))⟩ ::
⟨(some 46), none, (.op (.ixsl 1 (.t 44) (.t 45)))⟩ ::
⟨(some 47), none, (.op (.load1 (.t 46)))⟩ ::
⟨(some 48), none, (.op (.len (.t 47)))⟩ ::
⟨(some 49), none, (.op (.int .lss (.t 43) (.t 48)))⟩ :: [])) (.cond (.t 49) .skip (.exit 4))) (.seq (.block 5 (.seq (.dreg (
    ⟨(some 52), none, (.op (.mv (.t 1)))⟩ ::
⟨(some 53), none, (.op (.mv (.t 6)))⟩ ::
⟨(some 54), none, (.op (.ixsl 1 (.t 52) (.t 53)))⟩ ::
⟨(some 55), none, (.op (.load1 (.t 54)))⟩ ::
⟨(some 56), none, (.op (.mv (.t 7)))⟩ ::
⟨(some 57), none, (.op (.ixsl 1 (.t 55) (.t 56)))⟩ ::
⟨(some 58), none, (.op (.load1 (.t 57)))⟩ ::
⟨(some 59), none, (.op (.faddr 2 (.t 2)))⟩ ::
⟨(some 60), none, (.op (.load1 (.t 59)))⟩ ::
⟨(some 61), none, (.op (.mv (.t 6)))⟩ ::
⟨(some 62), none, (.op (.ixsl 1 (.t 60) (.t 61)))⟩ ::
⟨(some 63), none, (.op (.load1 (.t 62)))⟩ ::
⟨(some 64), none, (.op (.mv (.t 7)))⟩ ::
⟨(some 65), none, (.op (.ixsl 2 (.t 63) (.t 64)))⟩ ::
⟨(some 66), none, (.op (.faddr 0 (.t 65)))⟩ ::
⟨(some 67), none, (.op (.load1 (.t 66)))⟩ ::
⟨(some 68), none, (.op (.int .lss (.t 58) (.t 67)))⟩ ::
⟨(some 69), none, (.op (.mv (.t 68)))⟩ ::
⟨(some 70), (some (69, false)), (.op (.mv (.t 1)))⟩ ::
⟨(some 71), (some (69, false)), (.op (.mv (.t 6)))⟩ ::
⟨(some 72), (some (69, false)), (.op (.ixsl 1 (.t 70) (.t 71)))⟩ ::
⟨(some 73), (some (69, false)), (.op (.load1 (.t 72)))⟩ ::
⟨(some 74), (some (69, false)), (.op (.mv (.t 7)))⟩ ::
⟨(some 75), (some (69, false)), (.op (.ixsl 1 (.t 73) (.t 74)))⟩ ::
⟨(some 76), (some (69, false)), (.op (.load1 (.t 75)))⟩ ::
⟨(some 77), (some (69, false)), (.op (.faddr 2 (.t 2)))⟩ ::
⟨(some 78), (some (69, false)), (.op (.load1 (.t 77)))⟩ ::
⟨(some 79), (some (69, false)), (.op (.mv (.t 6)))⟩ ::
⟨(some 80), (some (69, false)), (.op (.ixsl 1 (.t 78) (.t 79)))⟩ ::
⟨(some 81), (some (69, false)), (.op (.load1 (.t 80)))⟩ ::
⟨(some 82), (some (69, false)), (.op (.mv (.t 7)))⟩ ::
⟨(some 83), (some (69, false)), (.op (.ixsl 2 (.t 81) (.t 82)))⟩ ::
⟨(some 84), (some (69, false)), (.op (.faddr 1 (.t 83)))⟩ ::
⟨(some 85), (some (69, false)), (.op (.load1 (.t 84)))⟩ ::
⟨(some 86), (some (69, false)), (.op (.int .gtr (.t 76) (.t 85)))⟩ ::
⟨(some 87), none, (.op (.pick (.t 69) (.c (Value.bool true)) (.t 86)))⟩ :: []) []) (.cond (.t 87) (.seq (.reg (
    ⟨(some 4), none, (.op (.mv (.c (Value.int .i64 3))))⟩ :: [])) .ret) .skip))) (.reg (
    ⟨(some 50), none, (.op (.mv (.t 7)))⟩ ::
⟨(some 51), none, (.op (.int .add (.t 50) (.c (Value.int .i64 1))))⟩ ::
⟨(some 7), none, (.op (.mv (.t 51)))⟩ :: [])))))))) (.reg (
    ⟨(some 41), none, (.op (.mv (.t 6)))⟩ ::
⟨(some 42), none, (.op (.int .add (.t 41) (.c (Value.int .i64 1))))⟩ ::
⟨(some 6), none, (.op (.mv (.t 42)))⟩ :: []))))))) (.seq (.reg (
    ⟨(some 4), none, (.op (.mv (.c (Value.int .i64 0))))⟩ :: [])) .ret))))))
def r22 : List ResultVar := [.tmp 4]
set_option maxRecDepth 1000000 in
set_option maxHeartbeats 4000000 in
theorem fun22 : Fun Try.prog 22 88 2 a22 r22 :=
  ⟨rfl, Try.f22, _, rfl, rfl, rfl, by decide, rfl, rfl, rfl⟩
/-- tumblehome/chart.Meet -/
noncomputable def a23 : ACode := (.seq (.reg (
    ⟨(some 4), none, (.op (.box (.t 0) 25))⟩ ::
⟨(some 7), none, (.op (.box (.t 3) 44))⟩ ::
⟨(some 8), none, (.op (.alloc [Value.int .i64 0, Value.int .i64 0] 32))⟩ ::
⟨(some 9), none, (.op (.mv (.c (Value.int .i64 0))))⟩ :: [])) (.seq (.seq (.reg (
    ⟨(some 16), none, (.op (.loadn 3 (.t 4)))⟩ ::
⟨(some 17), none, (.op (.mv (.t 1)))⟩ ::
⟨(some 18), none, (.call (.c (Value.func (.func 21) #[] #[])) [(.t 16), (.t 17)])⟩ ::
⟨(some 10), none, (.op (.mv (.t 18)))⟩ :: [])) (.seq (.reg (
    ⟨(some 19), none, (.op (.mv (.t 10)))⟩ ::
⟨(some 20), none, (.op (.int .neq (.t 19) (.c (Value.int .i64 0))))⟩ :: [])) (.cond (.t 20) (.seq (.reg (
    ⟨(some 21), none, (.op (.build [Value.int .i64 0, Value.int .i64 0] []))⟩ ::
⟨(some 22), none, (.op (.mv (.t 10)))⟩ ::
⟨none, none, (.op (.store 2 (.t 8) (.t 21)))⟩ ::
⟨(some 9), none, (.op (.mv (.t 22)))⟩ :: [])) .ret) .skip))) (.seq (.reg (
    ⟨(some 23), none, (.op (.loadn 3 (.t 4)))⟩ ::
⟨(some 24), none, (.op (.build [Value.slice none 0 0, Value.slice none 0 0, Value.slice none 0 0] [(0, 3, (.t 23))]))⟩ ::
⟨(some 11), none, (.op (.alloc [Value.slice none 0 0, Value.slice none 0 0, Value.slice none 0 0] 84))⟩ ::
⟨none, none, (.op (.store 3 (.t 11) (.t 24)))⟩ :: [])) (.seq (.seq (.reg (
    ⟨(some 25), none, (.op (.loadn 3 (.t 11)))⟩ ::
⟨(some 26), none, (.op (.mv (.t 2)))⟩ ::
⟨(some 27), none, (.op (.loadn 2 (.t 7)))⟩ ::
⟨(some 28), none, (.call (.c (Value.func (.func 63) #[] #[])) [(.t 25), (.t 26), (.t 27)])⟩ ::
⟨(some 12), none, (.op (.mv (.t 28)))⟩ :: [])) (.seq (.reg (
    ⟨(some 29), none, (.op (.mv (.t 12)))⟩ ::
⟨(some 30), none, (.op (.int .neq (.t 29) (.c (Value.int .i64 0))))⟩ :: [])) (.cond (.t 30) (.seq (.reg (
    ⟨(some 31), none, (.op (.build [Value.int .i64 0, Value.int .i64 0] []))⟩ ::
⟨(some 32), none, (.op (.mv (.t 12)))⟩ ::
⟨none, none, (.op (.store 2 (.t 8) (.t 31)))⟩ ::
⟨(some 9), none, (.op (.mv (.t 32)))⟩ :: [])) .ret) .skip))) (.seq (.reg (
    ⟨(some 13), none, (.op (.mv (.c (Value.func (.func 64) #[] #[]))))⟩ :: [])) (.seq (.seq (.reg (
    ⟨(some 33), none, (.op (.mv (.t 1)))⟩ ::
⟨(some 34), none, (.op (.mv (.t 13)))⟩ ::
⟨(some 35), none, (.call (.c (Value.func (.func 67) #[] #[])) [(.t 33), (.t 34)])⟩ :: [])) (.cond (.t 35) (.seq (.reg (
    ⟨(some 36), none, (.op (.build [Value.int .i64 0, Value.int .i64 0] []))⟩ ::
⟨none, none, (.op (.store 2 (.t 8) (.t 36)))⟩ ::
⟨(some 9), none, (.op (.mv (.c (Value.int .i64 16))))⟩ :: [])) .ret) .skip)) (.seq (.reg (
    ⟨(some 38), none, (.op (.loadn 3 (.t 11)))⟩ ::
⟨(some 39), none, (.op (.mv (.t 1)))⟩ ::
⟨(some 40), none, (.op (.mv (.t 2)))⟩ ::
⟨(some 41), none, (.op (.loadn 2 (.t 7)))⟩ ::
⟨(some 42), none, (.call (.c (Value.func (.func 68) #[] #[])) [(.t 38), (.t 39), (.t 40), (.t 41)])⟩ ::
⟨(some 37), none, (.op (.mv (.t 42)))⟩ ::
⟨(some 43), none, (.op (.extract (.t 37) 0))⟩ ::
⟨(some 44), none, (.op (.extract (.t 37) 1))⟩ ::
⟨(some 14), none, (.op (.alloc [Value.int .i64 0, Value.int .i64 0] 32))⟩ ::
⟨none, none, (.op (.store 2 (.t 14) (.t 43)))⟩ ::
⟨(some 15), none, (.op (.mv (.t 44)))⟩ :: [])) (.seq (.seq (.reg (
    ⟨(some 45), none, (.op (.mv (.t 15)))⟩ ::
⟨(some 46), none, (.op (.not (.t 45)))⟩ :: [])) (.cond (.t 46) (.seq (.reg (
    ⟨(some 47), none, (.op (.build [Value.int .i64 0, Value.int .i64 0] []))⟩ ::
⟨none, none, (.op (.store 2 (.t 8) (.t 47)))⟩ ::
⟨(some 9), none, (.op (.mv (.c (Value.int .i64 5))))⟩ :: [])) .ret) .skip)) (.seq (.reg (
    ⟨(some 48), none, (.op (.loadn 2 (.t 14)))⟩ ::
⟨none, none, (.op (.store 2 (.t 8) (.t 48)))⟩ ::
⟨(some 9), none, (.op (.mv (.c (Value.int .i64 0))))⟩ :: [])) .ret)))))))))
def r23 : List ResultVar := [.cell 8 32, .tmp 9]
set_option maxRecDepth 1000000 in
set_option maxHeartbeats 4000000 in
theorem fun23 : Fun Try.prog 23 49 4 a23 r23 :=
  ⟨rfl, Try.f23, _, rfl, rfl, rfl, by decide, rfl, rfl, rfl⟩
/-- tumblehome/chart.Meets -/
noncomputable def a25 : ACode := (.seq (.reg (
    ⟨(some 3), none, (.op (.box (.t 0) 25))⟩ ::
⟨(some 5), none, (.op (.box (.t 2) 44))⟩ ::
⟨(some 6), none, (.op (.alloc [Value.int .i64 0, Value.int .i64 0, Value.int .i64 0, Value.int .i64 0] 37))⟩ ::
⟨(some 7), none, (.op (.mv (.c (Value.int .i64 0))))⟩ :: [])) (.seq (.reg (
    ⟨(some 16), none, (.op (.loadn 3 (.t 3)))⟩ ::
⟨(some 17), none, (.call (.c (Value.func (.func 54) #[] #[])) [(.t 16), (.c (Value.slice none 0 0))])⟩ ::
⟨(some 15), none, (.op (.mv (.t 17)))⟩ ::
⟨(some 18), none, (.op (.extract (.t 15) 0))⟩ ::
⟨(some 19), none, (.op (.extract (.t 15) 1))⟩ ::
⟨(some 8), none, (.op (.alloc [Value.slice none 0 0, Value.slice none 0 0, Value.slice none 0 0] 84))⟩ ::
⟨none, none, (.op (.store 3 (.t 8) (.t 18)))⟩ ::
⟨(some 9), none, (.op (.mv (.t 19)))⟩ :: [])) (.seq (.seq (.reg (
    ⟨(some 20), none, (.op (.mv (.t 9)))⟩ ::
⟨(some 21), none, (.op (.int .neq (.t 20) (.c (Value.int .i64 0))))⟩ :: [])) (.cond (.t 21) (.seq (.reg (
    ⟨(some 22), none, (.op (.build [Value.int .i64 0, Value.int .i64 0, Value.int .i64 0, Value.int .i64 0] []))⟩ ::
⟨(some 23), none, (.op (.mv (.t 9)))⟩ ::
⟨none, none, (.op (.store 4 (.t 6) (.t 22)))⟩ ::
⟨(some 7), none, (.op (.mv (.t 23)))⟩ :: [])) .ret) .skip)) (.seq (.seq (.reg (
    ⟨(some 24), none, (.op (.loadn 3 (.t 8)))⟩ ::
⟨(some 25), none, (.op (.mv (.t 1)))⟩ ::
⟨(some 26), none, (.op (.loadn 2 (.t 5)))⟩ ::
⟨(some 27), none, (.call (.c (Value.func (.func 63) #[] #[])) [(.t 24), (.t 25), (.t 26)])⟩ ::
⟨(some 10), none, (.op (.mv (.t 27)))⟩ :: [])) (.seq (.reg (
    ⟨(some 28), none, (.op (.mv (.t 10)))⟩ ::
⟨(some 29), none, (.op (.int .neq (.t 28) (.c (Value.int .i64 0))))⟩ :: [])) (.cond (.t 29) (.seq (.reg (
    ⟨(some 30), none, (.op (.build [Value.int .i64 0, Value.int .i64 0, Value.int .i64 0, Value.int .i64 0] []))⟩ ::
⟨(some 31), none, (.op (.mv (.t 10)))⟩ ::
⟨none, none, (.op (.store 4 (.t 6) (.t 30)))⟩ ::
⟨(some 7), none, (.op (.mv (.t 31)))⟩ :: [])) .ret) .skip))) (.seq (.dreg (
    ⟨(some 33), none, (.op (.loadn 3 (.t 8)))⟩ ::
⟨(some 34), none, (.op (.loadn 3 (.t 8)))⟩ ::
⟨(some 35), none, (.op (.loadn 3 (.t 8)))⟩ ::
⟨(some 36), none, (.op (.mkfn (Fn.func 55) [(.t 35)] []))⟩ ::
⟨(some 37), none, (.call (.c (Value.func (.func 73) #[] #[])) [(.t 34), (.t 36)])⟩ ::
⟨(some 38), none, (.op (.mv (.t 1)))⟩ ::
⟨(some 39), none, (.op (.loadn 2 (.t 5)))⟩ ::
⟨(some 40), none, (.call (.c (Value.func (.func 68) #[] #[])) [(.t 33), (.t 37), (.t 38), (.t 39)])⟩ ::
⟨(some 32), none, (.op (.mv (.t 40)))⟩ ::
⟨(some 41), none, (.op (.extract (.t 32) 0))⟩ ::
⟨(some 42), none, (.op (.extract (.t 32) 1))⟩ ::
⟨(some 11), none, (.op (.alloc [Value.int .i64 0, Value.int .i64 0] 32))⟩ ::
⟨none, none, (.op (.store 2 (.t 11) (.t 41)))⟩ ::
⟨(some 12), none, (.op (.mv (.t 42)))⟩ :: []) []) (.seq (.dreg (
    ⟨(some 44), none, (.op (.loadn 3 (.t 8)))⟩ ::
⟨(some 45), none, (.op (.loadn 3 (.t 8)))⟩ ::
⟨(some 46), none, (.op (.loadn 3 (.t 8)))⟩ ::
⟨(some 47), none, (.op (.mkfn (Fn.func 56) [(.t 46)] []))⟩ ::
⟨(some 48), none, (.call (.c (Value.func (.func 73) #[] #[])) [(.t 45), (.t 47)])⟩ ::
⟨(some 49), none, (.op (.mv (.t 1)))⟩ ::
⟨(some 50), none, (.op (.loadn 2 (.t 5)))⟩ ::
⟨(some 51), none, (.call (.c (Value.func (.func 68) #[] #[])) [(.t 44), (.t 48), (.t 49), (.t 50)])⟩ ::
⟨(some 43), none, (.op (.mv (.t 51)))⟩ ::
⟨(some 52), none, (.op (.extract (.t 43) 0))⟩ ::
⟨(some 53), none, (.op (.extract (.t 43) 1))⟩ ::
⟨(some 13), none, (.op (.alloc [Value.int .i64 0, Value.int .i64 0] 32))⟩ ::
⟨none, none, (.op (.store 2 (.t 13) (.t 52)))⟩ ::
⟨(some 14), none, (.op (.mv (.t 53)))⟩ :: []) []) (.seq (.seq (.reg (
    ⟨(some 54), none, (.op (.mv (.t 12)))⟩ ::
⟨(some 55), none, (.op (.not (.t 54)))⟩ ::
⟨(some 56), none, (.op (.mv (.t 55)))⟩ ::
⟨(some 57), (some (56, false)), (.op (.mv (.t 14)))⟩ ::
⟨(some 58), (some (56, false)), (.op (.not (.t 57)))⟩ ::
⟨(some 59), none, (.op (.pick (.t 56) (.c (Value.bool true)) (.t 58)))⟩ :: [])) (.cond (.t 59) (.seq (.reg (
    ⟨(some 60), none, (.op (.build [Value.int .i64 0, Value.int .i64 0, Value.int .i64 0, Value.int .i64 0] []))⟩ ::
⟨none, none, (.op (.store 4 (.t 6) (.t 60)))⟩ ::
⟨(some 7), none, (.op (.mv (.c (Value.int .i64 5))))⟩ :: [])) .ret) .skip)) (.seq (.reg (
    ⟨(some 61), none, (.op (.loadn 2 (.t 11)))⟩ ::
⟨(some 62), none, (.op (.loadn 2 (.t 13)))⟩ ::
⟨(some 63), none, (.op (.build [Value.int .i64 0, Value.int .i64 0, Value.int .i64 0, Value.int .i64 0] [(0, 2, (.t 61)), (2, 2, (.t 62))]))⟩ ::
⟨none, none, (.op (.store 4 (.t 6) (.t 63)))⟩ ::
⟨(some 7), none, (.op (.mv (.c (Value.int .i64 0))))⟩ :: [])) .ret))))))))
def r25 : List ResultVar := [.cell 6 37, .tmp 7]
set_option maxRecDepth 1000000 in
set_option maxHeartbeats 4000000 in
theorem fun25 : Fun Try.prog 25 64 3 a25 r25 :=
  ⟨rfl, Try.f25, _, rfl, rfl, rfl, by decide, rfl, rfl, rfl⟩
/-- tumblehome/chart.Sure -/
noncomputable def a27 : ACode := (.seq (.reg (
    ⟨(some 2), none, (.op (.box (.t 0) 25))⟩ ::
⟨(some 3), none, (.op (.box (.t 1) 48))⟩ ::
⟨(some 4), none, (.op (.mv (.c (Value.slice none 0 0))))⟩ ::
⟨(some 5), none, (.op (.mv (.c (Value.slice none 0 0))))⟩ ::
⟨(some 6), none, (.op (.mv (.c (Value.int .i64 0))))⟩ :: [])) (.seq (.reg (
    ⟨(some 11), none, (.op (.loadn 3 (.t 2)))⟩ ::
⟨(some 12), none, (.call (.c (Value.func (.func 54) #[] #[])) [(.t 11), (.c (Value.slice none 0 0))])⟩ ::
⟨(some 10), none, (.op (.mv (.t 12)))⟩ ::
⟨(some 13), none, (.op (.extract (.t 10) 0))⟩ ::
⟨(some 14), none, (.op (.extract (.t 10) 1))⟩ ::
⟨(some 7), none, (.op (.alloc [Value.slice none 0 0, Value.slice none 0 0, Value.slice none 0 0] 84))⟩ ::
⟨none, none, (.op (.store 3 (.t 7) (.t 13)))⟩ ::
⟨(some 8), none, (.op (.mv (.t 14)))⟩ :: [])) (.seq (.block 0 (.seq (.reg (
    ⟨(some 16), none, (.op (.mv (.t 8)))⟩ ::
⟨(some 17), none, (.op (.int .neq (.t 16) (.c (Value.int .i64 0))))⟩ ::
⟨(some 15), none, (.op (.mv (.t 17)))⟩ :: [])) (.cond (.t 15) (.seq (.reg (
    ⟨(some 18), none, (.op (.mv (.t 8)))⟩ ::
⟨(some 4), none, (.op (.mv (.c (Value.slice none 0 0))))⟩ ::
⟨(some 5), none, (.op (.mv (.c (Value.slice none 0 0))))⟩ ::
⟨(some 6), none, (.op (.mv (.t 18)))⟩ :: [])) .ret) (.seq (.reg (
    ⟨(some 20), none, (.op (.load1 (.t 3)))⟩ ::
⟨(some 21), none, (.op (.len (.t 20)))⟩ ::
⟨(some 22), none, (.op (.int .eql (.t 21) (.c (Value.int .i64 0))))⟩ ::
⟨(some 23), none, (.op (.mv (.t 22)))⟩ ::
⟨(some 24), (some (23, false)), (.op (.load1 (.t 3)))⟩ ::
⟨(some 25), (some (23, false)), (.op (.len (.t 24)))⟩ ::
⟨(some 26), (some (23, false)), (.op (.int .gtr (.t 25) (.c (Value.int .i64 12))))⟩ ::
⟨(some 27), none, (.op (.pick (.t 23) (.c (Value.bool true)) (.t 26)))⟩ ::
⟨(some 19), none, (.op (.mv (.t 27)))⟩ :: [])) (.cond (.t 19) (.seq (.reg (
    ⟨(some 4), none, (.op (.mv (.c (Value.slice none 0 0))))⟩ ::
⟨(some 5), none, (.op (.mv (.c (Value.slice none 0 0))))⟩ ::
⟨(some 6), none, (.op (.mv (.c (Value.int .i64 6))))⟩ :: [])) .ret) (.seq (.reg (
    ⟨(some 29), none, (.op (.loadn 3 (.t 7)))⟩ ::
⟨(some 30), none, (.op (.load1 (.t 3)))⟩ ::
⟨(some 31), none, (.call (.c (Value.func (.func 49) #[] #[])) [(.t 29), (.t 30)])⟩ ::
⟨(some 32), none, (.op (.not (.t 31)))⟩ ::
⟨(some 28), none, (.op (.mv (.t 32)))⟩ :: [])) (.cond (.t 28) (.seq (.reg (
    ⟨(some 4), none, (.op (.mv (.c (Value.slice none 0 0))))⟩ ::
⟨(some 5), none, (.op (.mv (.c (Value.slice none 0 0))))⟩ ::
⟨(some 6), none, (.op (.mv (.c (Value.int .i64 19))))⟩ :: [])) .ret) .skip))))))) (.seq (.reg (
    ⟨(some 33), none, (.op (.mkfn (Fn.func 74) [] [(.t 3), (.t 7)]))⟩ ::
⟨(some 9), none, (.op (.mv (.t 33)))⟩ :: [])) (.seq (.reg (
    ⟨(some 34), none, (.op (.mv (.t 9)))⟩ ::
⟨(some 35), none, (.call (.t 34) [(.c (Value.bool false))])⟩ ::
⟨(some 36), none, (.op (.mv (.t 9)))⟩ ::
⟨(some 37), none, (.call (.t 36) [(.c (Value.bool true))])⟩ ::
⟨(some 4), none, (.op (.mv (.t 35)))⟩ ::
⟨(some 5), none, (.op (.mv (.t 37)))⟩ ::
⟨(some 6), none, (.op (.mv (.c (Value.int .i64 0))))⟩ :: [])) .ret)))))
def r27 : List ResultVar := [.tmp 4, .tmp 5, .tmp 6]
set_option maxRecDepth 1000000 in
set_option maxHeartbeats 4000000 in
theorem fun27 : Fun Try.prog 27 38 2 a27 r27 :=
  ⟨rfl, Try.f27, _, rfl, rfl, rfl, by decide, rfl, rfl, rfl⟩
/-- tumblehome/tumblehomelaw08.ints -/
noncomputable def a29 : ACode := (.seq (.reg (
    ⟨(some 4), none, (.op (.mv (.c (Value.bool false))))⟩ :: [])) (.seq (.seq (.reg (
    ⟨(some 6), none, (.op (.mv (.t 0)))⟩ ::
⟨(some 7), none, (.op (.len (.t 6)))⟩ ::
⟨(some 8), none, (.op (.mv (.t 1)))⟩ ::
⟨(some 9), none, (.op (.len (.t 8)))⟩ ::
⟨(some 10), none, (.op (.int .neq (.t 7) (.t 9)))⟩ :: [])) (.cond (.t 10) (.seq (.reg (
    ⟨(some 4), none, (.op (.mv (.c (Value.bool false))))⟩ :: [])) .ret) .skip)) (.seq (.seq (.reg (
    ⟨(some 5), none, (.op (.mv (.c (Value.int .i64 0))))⟩ :: [])) (.block 0 (.loop (.seq (.seq (.reg (
    ⟨(some 11), none, (.op (.mv (.t 5)))⟩ ::
⟨(some 12), none, (.op (.mv (.t 0)))⟩ ::
⟨(some 13), none, (.op (.len (.t 12)))⟩ ::
⟨(some 14), none, (.op (.int .lss (.t 11) (.t 13)))⟩ :: [])) (.cond (.t 14) .skip (.exit 0))) (.seq (.block 1 (.seq (.dreg (
    ⟨(some 17), none, (.op (.mv (.t 0)))⟩ ::
⟨(some 18), none, (.op (.mv (.t 5)))⟩ ::
⟨(some 19), none, (.op (.ixsl 1 (.t 17) (.t 18)))⟩ ::
⟨(some 20), none, (.op (.load1 (.t 19)))⟩ ::
⟨(some 21), none, (.op (.mv (.t 1)))⟩ ::
⟨(some 22), none, (.op (.mv (.t 5)))⟩ ::
⟨(some 23), none, (.op (.ixsl 1 (.t 21) (.t 22)))⟩ ::
⟨(some 24), none, (.op (.load1 (.t 23)))⟩ ::
⟨(some 25), none, (.op (.int .neq (.t 20) (.t 24)))⟩ :: []) []) (.cond (.t 25) (.seq (.reg (
    ⟨(some 4), none, (.op (.mv (.c (Value.bool false))))⟩ :: [])) .ret) .skip))) (.reg (
    ⟨(some 15), none, (.op (.mv (.t 5)))⟩ ::
⟨(some 16), none, (.op (.int .add (.t 15) (.c (Value.int .i64 1))))⟩ ::
⟨(some 5), none, (.op (.mv (.t 16)))⟩ :: []))))))) (.seq (.reg (
    ⟨(some 4), none, (.op (.mv (.c (Value.bool true))))⟩ :: [])) .ret))))
def r29 : List ResultVar := [.tmp 4]
set_option maxRecDepth 1000000 in
set_option maxHeartbeats 4000000 in
theorem fun29 : Fun Try.prog 29 26 2 a29 r29 :=
  ⟨rfl, Try.f29, _, rfl, rfl, rfl, by decide, rfl, rfl, rfl⟩
/-- tumblehome/tumblehomelaw08.fine -/
noncomputable def a30 : ACode := (.seq (.reg (
    ⟨(some 1), none, (.op (.box (.t 0) 25))⟩ ::
⟨(some 2), none, (.op (.mv (.c (Value.bool false))))⟩ :: [])) (.seq (.reg (
    ⟨(some 3), none, (.op (.loadn 3 (.t 1)))⟩ ::
⟨(some 4), none, (.call (.c (Value.func (.func 13) #[] #[])) [(.t 3), (.c (Value.slice none 0 0))])⟩ ::
⟨(some 5), none, (.op (.not (.t 4)))⟩ ::
⟨(some 6), none, (.op (.mv (.t 5)))⟩ ::
⟨(some 7), (some (6, true)), (.op (.loadn 3 (.t 1)))⟩ ::
⟨(some 8), (some (6, true)), (.call (.c (Value.func (.func 20) #[] #[])) [(.t 7)])⟩ ::
⟨(some 9), (some (6, true)), (.op (.int .eql (.t 8) (.c (Value.int .i64 0))))⟩ ::
⟨(some 10), none, (.op (.pick (.t 6) (.t 9) (.c (Value.bool false))))⟩ ::
⟨(some 2), none, (.op (.mv (.t 10)))⟩ :: [])) .ret))
def r30 : List ResultVar := [.tmp 2]
set_option maxRecDepth 1000000 in
set_option maxHeartbeats 4000000 in
theorem fun30 : Fun Try.prog 30 11 1 a30 r30 :=
  ⟨rfl, Try.f30, _, rfl, rfl, rfl, by decide, rfl, rfl, rfl⟩
/-- tumblehome/tumblehomelaw08.True -/
noncomputable def a31 : ACode := (.seq (.reg (
    ⟨(some 2), none, (.op (.box (.t 0) 25))⟩ ::
⟨(some 4), none, (.op (.mv (.c (Value.slice none 0 0))))⟩ :: [])) (.seq (.reg (
    ⟨(some 5), none, (.op (.mv (.c (Value.slice none 0 0))))⟩ :: [])) (.seq (.reg (
    ⟨(some 6), none, (.op (.mv (.c (Value.int .i64 0))))⟩ :: [])) (.seq (.seq (.reg (
    ⟨(some 7), none, (.op (.mv (.c (Value.int .i64 0))))⟩ :: [])) (.block 0 (.loop (.seq (.seq (.reg (
    ⟨(some 12), none, (.op (.mv (.t 7)))⟩ ::
⟨(some 13), none, (.op (.faddr 2 (.t 2)))⟩ ::
⟨(some 14), none, (.op (.load1 (.t 13)))⟩ ::
⟨(some 15), none, (.op (.len (.t 14)))⟩ ::
⟨(some 16), none, (.op (.int .lss (.t 12) (.t 15)))⟩ :: [])) (.cond (.t 16) .skip (.exit 0))) (.seq (.block 1 (.seq (.reg (
    ⟨(some 8), none, (.op (.mv (.c (Value.slice none 0 0))))⟩ :: [])) (.seq (.seq (.reg (
    ⟨(some 9), none, (.op (.mv (.c (Value.int .i64 0))))⟩ :: [])) (.block 2 (.loop (.seq (.seq (.reg (
    ⟨(some 19), none, (.op (.mv (.t 9)))⟩ ::
⟨(some 20), none, (.op (.faddr 2 (.t 2)))⟩ ::
⟨(some 21), none, (.op (.load1 (.t 20)))⟩ ::
⟨(some 22), none, (.op (.mv (.t 7)))⟩ ::
⟨(some 23), none, (.op (.ixsl 1 (.t 21) (.t 22)))⟩ ::
⟨(some 24), none, (.op (.load1 (.t 23)))⟩ ::
⟨(some 25), none, (.op (.len (.t 24)))⟩ ::
⟨(some 26), none, (.op (.int .lss (.t 19) (.t 25)))⟩ :: [])) (.cond (.t 26) .skip (.exit 2))) (.seq (.block 3 (.seq (.reg (
    ⟨(some 29), none, (.op (.faddr 2 (.t 2)))⟩ ::
⟨(some 30), none, (.op (.load1 (.t 29)))⟩ ::
⟨(some 31), none, (.op (.mv (.t 7)))⟩ ::
⟨(some 32), none, (.op (.ixsl 1 (.t 30) (.t 31)))⟩ ::
⟨(some 33), none, (.op (.load1 (.t 32)))⟩ ::
⟨(some 34), none, (.op (.mv (.t 9)))⟩ ::
⟨(some 35), none, (.op (.ixsl 2 (.t 33) (.t 34)))⟩ ::
⟨(some 36), none, (.op (.loadn 2 (.t 35)))⟩ ::
⟨(some 10), none, (.op (.alloc [Value.int .i64 0, Value.int .i64 0] 65))⟩ ::
⟨none, none, (.op (.store 2 (.t 10) (.t 36)))⟩ :: [])) (.seq (.reg (
    ⟨(some 37), none, (.op (.faddr 0 (.t 10)))⟩ ::
⟨(some 38), none, (.op (.load1 (.t 37)))⟩ ::
⟨(some 11), none, (.op (.mv (.t 38)))⟩ :: [])) (.seq (.seq (.reg (
    ⟨(some 39), none, (.op (.mv (.t 1)))⟩ ::
⟨(some 40), none, (.op (.len (.t 39)))⟩ ::
⟨(some 41), none, (.op (.int .gtr (.t 40) (.c (Value.int .i64 0))))⟩ :: [])) (.cond (.t 41) (.dreg (
    ⟨(some 42), none, (.op (.mv (.t 11)))⟩ ::
⟨(some 43), none, (.op (.mv (.t 1)))⟩ ::
⟨(some 44), none, (.op (.mv (.t 6)))⟩ ::
⟨(some 45), none, (.op (.mv (.t 1)))⟩ ::
⟨(some 46), none, (.op (.len (.t 45)))⟩ ::
⟨(some 47), none, (.op (.idiv false (.t 44) (.t 46)))⟩ ::
⟨(some 48), none, (.op (.ixsl 1 (.t 43) (.t 47)))⟩ ::
⟨(some 49), none, (.op (.load1 (.t 48)))⟩ ::
⟨(some 50), none, (.op (.conv .i64 (.t 49)))⟩ ::
⟨(some 51), none, (.op (.faddr 1 (.t 10)))⟩ ::
⟨(some 52), none, (.op (.load1 (.t 51)))⟩ ::
⟨(some 53), none, (.op (.faddr 0 (.t 10)))⟩ ::
⟨(some 54), none, (.op (.load1 (.t 53)))⟩ ::
⟨(some 55), none, (.op (.int .sub (.t 52) (.t 54)))⟩ ::
⟨(some 56), none, (.op (.int .add (.t 55) (.c (Value.int .i64 1))))⟩ ::
⟨(some 57), none, (.op (.idiv false (.t 50) (.t 56)))⟩ ::
⟨(some 58), none, (.op (.int .add (.t 42) (.t 57)))⟩ ::
⟨(some 11), none, (.op (.mv (.t 58)))⟩ :: []) []) .skip)) (.seq (.reg (
    ⟨(some 59), none, (.op (.mv (.t 8)))⟩ ::
⟨(some 60), none, (.op (.mv (.t 11)))⟩ ::
⟨(some 61), none, (.op (.bslice [Value.int .i64 0] [(0, 1, (.t 60))] 1 2))⟩ ::
⟨(some 62), none, (.op (.append 2 1 8 (.t 59) (.t 61)))⟩ ::
⟨(some 8), none, (.op (.mv (.t 62)))⟩ :: [])) (.reg (
    ⟨(some 63), none, (.op (.mv (.t 6)))⟩ ::
⟨(some 64), none, (.op (.int .add (.t 63) (.c (Value.int .i64 1))))⟩ ::
⟨(some 6), none, (.op (.mv (.t 64)))⟩ :: []))))))) (.reg (
    ⟨(some 27), none, (.op (.mv (.t 9)))⟩ ::
⟨(some 28), none, (.op (.int .add (.t 27) (.c (Value.int .i64 1))))⟩ ::
⟨(some 9), none, (.op (.mv (.t 28)))⟩ :: []))))))) (.reg (
    ⟨(some 65), none, (.op (.mv (.t 5)))⟩ ::
⟨(some 66), none, (.op (.mv (.t 8)))⟩ ::
⟨(some 67), none, (.op (.bslice [Value.slice none 0 0] [(0, 1, (.t 66))] 1 22))⟩ ::
⟨(some 68), none, (.op (.append 22 1 24 (.t 65) (.t 67)))⟩ ::
⟨(some 5), none, (.op (.mv (.t 68)))⟩ :: []))))) (.reg (
    ⟨(some 17), none, (.op (.mv (.t 7)))⟩ ::
⟨(some 18), none, (.op (.int .add (.t 17) (.c (Value.int .i64 1))))⟩ ::
⟨(some 7), none, (.op (.mv (.t 18)))⟩ :: []))))))) (.seq (.reg (
    ⟨(some 69), none, (.op (.mv (.t 5)))⟩ ::
⟨(some 4), none, (.op (.mv (.t 69)))⟩ :: [])) .ret)))))
def r31 : List ResultVar := [.tmp 4]
set_option maxRecDepth 1000000 in
set_option maxHeartbeats 4000000 in
theorem fun31 : Fun Try.prog 31 70 2 a31 r31 :=
  ⟨rfl, Try.f31, _, rfl, rfl, rfl, by decide, rfl, rfl, rfl⟩
/-- tumblehome/tumblehomelaw08.Point -/
noncomputable def a32 : ACode := (.seq (.reg (
    ⟨(some 2), none, (.op (.box (.t 0) 25))⟩ ::
⟨(some 3), none, (.op (.box (.t 1) 56))⟩ ::
⟨(some 4), none, (.op (.alloc [Value.int .i64 0, Value.int .i64 0] 28))⟩ :: [])) (.seq (.dreg (
    ⟨(some 9), none, (.op (.faddr 0 (.t 2)))⟩ ::
⟨(some 10), none, (.op (.load1 (.t 9)))⟩ ::
⟨(some 11), none, (.op (.ixsl 1 (.t 10) (.c (Value.int .i64 0))))⟩ ::
⟨(some 12), none, (.op (.load1 (.t 11)))⟩ ::
⟨(some 13), none, (.op (.faddr 0 (.t 2)))⟩ ::
⟨(some 14), none, (.op (.load1 (.t 13)))⟩ ::
⟨(some 15), none, (.op (.faddr 0 (.t 2)))⟩ ::
⟨(some 16), none, (.op (.load1 (.t 15)))⟩ ::
⟨(some 17), none, (.op (.len (.t 16)))⟩ ::
⟨(some 18), none, (.op (.int .sub (.t 17) (.c (Value.int .i64 1))))⟩ ::
⟨(some 19), none, (.op (.ixsl 1 (.t 14) (.t 18)))⟩ ::
⟨(some 20), none, (.op (.load1 (.t 19)))⟩ ::
⟨(some 5), none, (.op (.mv (.t 12)))⟩ ::
⟨(some 6), none, (.op (.mv (.t 20)))⟩ :: []) []) (.seq (.dreg (
    ⟨(some 21), none, (.op (.faddr 1 (.t 2)))⟩ ::
⟨(some 22), none, (.op (.load1 (.t 21)))⟩ ::
⟨(some 23), none, (.op (.ixsl 1 (.t 22) (.c (Value.int .i64 0))))⟩ ::
⟨(some 24), none, (.op (.load1 (.t 23)))⟩ ::
⟨(some 25), none, (.op (.faddr 1 (.t 2)))⟩ ::
⟨(some 26), none, (.op (.load1 (.t 25)))⟩ ::
⟨(some 27), none, (.op (.faddr 1 (.t 2)))⟩ ::
⟨(some 28), none, (.op (.load1 (.t 27)))⟩ ::
⟨(some 29), none, (.op (.len (.t 28)))⟩ ::
⟨(some 30), none, (.op (.int .sub (.t 29) (.c (Value.int .i64 1))))⟩ ::
⟨(some 31), none, (.op (.ixsl 1 (.t 26) (.t 30)))⟩ ::
⟨(some 32), none, (.op (.load1 (.t 31)))⟩ ::
⟨(some 7), none, (.op (.mv (.t 24)))⟩ ::
⟨(some 8), none, (.op (.mv (.t 32)))⟩ :: []) []) (.seq (.dreg (
    ⟨(some 33), none, (.op (.mv (.t 5)))⟩ ::
⟨(some 34), none, (.op (.ixarr 2 1 (.t 3) (.c (Value.int .i64 0))))⟩ ::
⟨(some 35), none, (.op (.load1 (.t 34)))⟩ ::
⟨(some 36), none, (.op (.conv .i64 (.t 35)))⟩ ::
⟨(some 37), none, (.op (.mv (.t 6)))⟩ ::
⟨(some 38), none, (.op (.mv (.t 5)))⟩ ::
⟨(some 39), none, (.op (.int .sub (.t 37) (.t 38)))⟩ ::
⟨(some 40), none, (.op (.int .add (.t 39) (.c (Value.int .i64 1))))⟩ ::
⟨(some 41), none, (.op (.idiv false (.t 36) (.t 40)))⟩ ::
⟨(some 42), none, (.op (.int .add (.t 33) (.t 41)))⟩ ::
⟨(some 43), none, (.op (.mv (.t 7)))⟩ ::
⟨(some 44), none, (.op (.ixarr 2 1 (.t 3) (.c (Value.int .i64 1))))⟩ ::
⟨(some 45), none, (.op (.load1 (.t 44)))⟩ ::
⟨(some 46), none, (.op (.conv .i64 (.t 45)))⟩ ::
⟨(some 47), none, (.op (.mv (.t 8)))⟩ ::
⟨(some 48), none, (.op (.mv (.t 7)))⟩ ::
⟨(some 49), none, (.op (.int .sub (.t 47) (.t 48)))⟩ ::
⟨(some 50), none, (.op (.int .add (.t 49) (.c (Value.int .i64 1))))⟩ ::
⟨(some 51), none, (.op (.idiv false (.t 46) (.t 50)))⟩ ::
⟨(some 52), none, (.op (.int .add (.t 43) (.t 51)))⟩ ::
⟨(some 53), none, (.op (.build [Value.int .i64 0, Value.int .i64 0] [(0, 1, (.t 42)), (1, 1, (.t 52))]))⟩ ::
⟨none, none, (.op (.store 2 (.t 4) (.t 53)))⟩ :: []) []) .ret))))
def r32 : List ResultVar := [.cell 4 28]
set_option maxRecDepth 1000000 in
set_option maxHeartbeats 4000000 in
theorem fun32 : Fun Try.prog 32 54 2 a32 r32 :=
  ⟨rfl, Try.f32, _, rfl, rfl, rfl, by decide, rfl, rfl, rfl⟩
/-- tumblehome/tumblehomeref08.Weights -/
noncomputable def a34 : ACode := (.seq (.reg (
    ⟨(some 2), none, (.op (.box (.t 0) 25))⟩ ::
⟨(some 3), none, (.op (.box (.t 1) 28))⟩ ::
⟨(some 4), none, (.op (.mv (.c (Value.slice none 0 0))))⟩ ::
⟨(some 5), none, (.op (.mv (.c (Value.int .i64 0))))⟩ :: [])) (.seq (.reg (
    ⟨(some 6), none, (.op (.mv (.c (Value.slice none 0 0))))⟩ :: [])) (.seq (.seq (.reg (
    ⟨(some 7), none, (.op (.mv (.c (Value.int .i64 0))))⟩ :: [])) (.block 0 (.loop (.seq (.seq (.reg (
    ⟨(some 14), none, (.op (.mv (.t 7)))⟩ ::
⟨(some 15), none, (.op (.faddr 2 (.t 2)))⟩ ::
⟨(some 16), none, (.op (.load1 (.t 15)))⟩ ::
⟨(some 17), none, (.op (.len (.t 16)))⟩ ::
⟨(some 18), none, (.op (.int .lss (.t 14) (.t 17)))⟩ :: [])) (.cond (.t 18) .skip (.exit 0))) (.seq (.block 1 (.reg (
    ⟨(some 21), none, (.op (.mv (.t 6)))⟩ ::
⟨(some 22), none, (.op (.faddr 2 (.t 2)))⟩ ::
⟨(some 23), none, (.op (.load1 (.t 22)))⟩ ::
⟨(some 24), none, (.op (.mv (.t 7)))⟩ ::
⟨(some 25), none, (.op (.ixsl 1 (.t 23) (.t 24)))⟩ ::
⟨(some 26), none, (.op (.load1 (.t 25)))⟩ ::
⟨(some 27), none, (.op (.len (.t 26)))⟩ ::
⟨(some 28), none, (.op (.mkslice [Value.int .i64 0] 8 2 (.t 27) (.t 27)))⟩ ::
⟨(some 29), none, (.op (.bslice [Value.slice none 0 0] [(0, 1, (.t 28))] 1 22))⟩ ::
⟨(some 30), none, (.op (.append 22 1 24 (.t 21) (.t 29)))⟩ ::
⟨(some 6), none, (.op (.mv (.t 30)))⟩ :: []))) (.reg (
    ⟨(some 19), none, (.op (.mv (.t 7)))⟩ ::
⟨(some 20), none, (.op (.int .add (.t 19) (.c (Value.int .i64 1))))⟩ ::
⟨(some 7), none, (.op (.mv (.t 20)))⟩ :: []))))))) (.seq (.dreg (
    ⟨(some 31), none, (.op (.faddr 0 (.t 2)))⟩ ::
⟨(some 32), none, (.op (.load1 (.t 31)))⟩ ::
⟨(some 33), none, (.op (.faddr 0 (.t 3)))⟩ ::
⟨(some 34), none, (.op (.load1 (.t 33)))⟩ ::
⟨(some 35), none, (.call (.c (Value.func (.func 78) #[] #[])) [(.t 32), (.t 34)])⟩ ::
⟨(some 36), none, (.op (.faddr 1 (.t 2)))⟩ ::
⟨(some 37), none, (.op (.load1 (.t 36)))⟩ ::
⟨(some 38), none, (.op (.faddr 1 (.t 3)))⟩ ::
⟨(some 39), none, (.op (.load1 (.t 38)))⟩ ::
⟨(some 40), none, (.call (.c (Value.func (.func 78) #[] #[])) [(.t 37), (.t 39)])⟩ ::
⟨(some 8), none, (.op (.mv (.t 35)))⟩ ::
⟨(some 9), none, (.op (.mv (.t 40)))⟩ :: []) []) (.seq (.dreg (
    ⟨(some 41), none, (.op (.faddr 0 (.t 3)))⟩ ::
⟨(some 42), none, (.op (.load1 (.t 41)))⟩ ::
⟨(some 43), none, (.op (.faddr 0 (.t 2)))⟩ ::
⟨(some 44), none, (.op (.load1 (.t 43)))⟩ ::
⟨(some 45), none, (.op (.mv (.t 8)))⟩ ::
⟨(some 46), none, (.op (.ixsl 1 (.t 44) (.t 45)))⟩ ::
⟨(some 47), none, (.op (.load1 (.t 46)))⟩ ::
⟨(some 48), none, (.op (.int .sub (.t 42) (.t 47)))⟩ ::
⟨(some 49), none, (.op (.faddr 1 (.t 3)))⟩ ::
⟨(some 50), none, (.op (.load1 (.t 49)))⟩ ::
⟨(some 51), none, (.op (.faddr 1 (.t 2)))⟩ ::
⟨(some 52), none, (.op (.load1 (.t 51)))⟩ ::
⟨(some 53), none, (.op (.mv (.t 9)))⟩ ::
⟨(some 54), none, (.op (.ixsl 1 (.t 52) (.t 53)))⟩ ::
⟨(some 55), none, (.op (.load1 (.t 54)))⟩ ::
⟨(some 56), none, (.op (.int .sub (.t 50) (.t 55)))⟩ ::
⟨(some 10), none, (.op (.mv (.t 48)))⟩ ::
⟨(some 11), none, (.op (.mv (.t 56)))⟩ :: []) []) (.seq (.dreg (
    ⟨(some 57), none, (.op (.faddr 0 (.t 2)))⟩ ::
⟨(some 58), none, (.op (.load1 (.t 57)))⟩ ::
⟨(some 59), none, (.op (.mv (.t 8)))⟩ ::
⟨(some 60), none, (.op (.int .add (.t 59) (.c (Value.int .i64 1))))⟩ ::
⟨(some 61), none, (.op (.ixsl 1 (.t 58) (.t 60)))⟩ ::
⟨(some 62), none, (.op (.load1 (.t 61)))⟩ ::
⟨(some 63), none, (.op (.faddr 0 (.t 2)))⟩ ::
⟨(some 64), none, (.op (.load1 (.t 63)))⟩ ::
⟨(some 65), none, (.op (.mv (.t 8)))⟩ ::
⟨(some 66), none, (.op (.ixsl 1 (.t 64) (.t 65)))⟩ ::
⟨(some 67), none, (.op (.load1 (.t 66)))⟩ ::
⟨(some 68), none, (.op (.int .sub (.t 62) (.t 67)))⟩ ::
⟨(some 69), none, (.op (.faddr 1 (.t 2)))⟩ ::
⟨(some 70), none, (.op (.load1 (.t 69)))⟩ ::
⟨(some 71), none, (.op (.mv (.t 9)))⟩ ::
⟨(some 72), none, (.op (.int .add (.t 71) (.c (Value.int .i64 1))))⟩ ::
⟨(some 73), none, (.op (.ixsl 1 (.t 70) (.t 72)))⟩ ::
⟨(some 74), none, (.op (.load1 (.t 73)))⟩ ::
⟨(some 75), none, (.op (.faddr 1 (.t 2)))⟩ ::
⟨(some 76), none, (.op (.load1 (.t 75)))⟩ ::
⟨(some 77), none, (.op (.mv (.t 9)))⟩ ::
⟨(some 78), none, (.op (.ixsl 1 (.t 76) (.t 77)))⟩ ::
⟨(some 79), none, (.op (.load1 (.t 78)))⟩ ::
⟨(some 80), none, (.op (.int .sub (.t 74) (.t 79)))⟩ ::
⟨(some 12), none, (.op (.mv (.t 68)))⟩ ::
⟨(some 13), none, (.op (.mv (.t 80)))⟩ :: []) []) (.seq (.reg (
    ⟨(some 81), none, (.op (.mv (.t 6)))⟩ ::
⟨(some 82), none, (.op (.mv (.t 8)))⟩ ::
⟨(some 83), none, (.op (.ixsl 1 (.t 81) (.t 82)))⟩ ::
⟨(some 84), none, (.op (.load1 (.t 83)))⟩ ::
⟨(some 85), none, (.op (.mv (.t 9)))⟩ ::
⟨(some 86), none, (.op (.mv (.t 12)))⟩ ::
⟨(some 87), none, (.op (.mv (.t 10)))⟩ ::
⟨(some 88), none, (.op (.int .sub (.t 86) (.t 87)))⟩ ::
⟨(some 89), none, (.op (.mv (.t 13)))⟩ ::
⟨(some 90), none, (.op (.mv (.t 11)))⟩ ::
⟨(some 91), none, (.op (.int .sub (.t 89) (.t 90)))⟩ ::
⟨(some 92), none, (.op (.int .mul (.t 88) (.t 91)))⟩ ::
⟨(some 93), none, (.op (.ixsl 1 (.t 84) (.t 85)))⟩ ::
⟨none, none, (.op (.store 1 (.t 93) (.t 92)))⟩ :: [])) (.seq (.reg (
    ⟨(some 94), none, (.op (.mv (.t 6)))⟩ ::
⟨(some 95), none, (.op (.mv (.t 8)))⟩ ::
⟨(some 96), none, (.op (.ixsl 1 (.t 94) (.t 95)))⟩ ::
⟨(some 97), none, (.op (.load1 (.t 96)))⟩ ::
⟨(some 98), none, (.op (.mv (.t 9)))⟩ ::
⟨(some 99), none, (.op (.int .add (.t 98) (.c (Value.int .i64 1))))⟩ ::
⟨(some 100), none, (.op (.mv (.t 12)))⟩ ::
⟨(some 101), none, (.op (.mv (.t 10)))⟩ ::
⟨(some 102), none, (.op (.int .sub (.t 100) (.t 101)))⟩ ::
⟨(some 103), none, (.op (.mv (.t 11)))⟩ ::
⟨(some 104), none, (.op (.int .mul (.t 102) (.t 103)))⟩ ::
⟨(some 105), none, (.op (.ixsl 1 (.t 97) (.t 99)))⟩ ::
⟨none, none, (.op (.store 1 (.t 105) (.t 104)))⟩ :: [])) (.seq (.reg (
    ⟨(some 106), none, (.op (.mv (.t 6)))⟩ ::
⟨(some 107), none, (.op (.mv (.t 8)))⟩ ::
⟨(some 108), none, (.op (.int .add (.t 107) (.c (Value.int .i64 1))))⟩ ::
⟨(some 109), none, (.op (.ixsl 1 (.t 106) (.t 108)))⟩ ::
⟨(some 110), none, (.op (.load1 (.t 109)))⟩ ::
⟨(some 111), none, (.op (.mv (.t 9)))⟩ ::
⟨(some 112), none, (.op (.mv (.t 10)))⟩ ::
⟨(some 113), none, (.op (.mv (.t 13)))⟩ ::
⟨(some 114), none, (.op (.mv (.t 11)))⟩ ::
⟨(some 115), none, (.op (.int .sub (.t 113) (.t 114)))⟩ ::
⟨(some 116), none, (.op (.int .mul (.t 112) (.t 115)))⟩ ::
⟨(some 117), none, (.op (.ixsl 1 (.t 110) (.t 111)))⟩ ::
⟨none, none, (.op (.store 1 (.t 117) (.t 116)))⟩ :: [])) (.seq (.reg (
    ⟨(some 118), none, (.op (.mv (.t 6)))⟩ ::
⟨(some 119), none, (.op (.mv (.t 8)))⟩ ::
⟨(some 120), none, (.op (.int .add (.t 119) (.c (Value.int .i64 1))))⟩ ::
⟨(some 121), none, (.op (.ixsl 1 (.t 118) (.t 120)))⟩ ::
⟨(some 122), none, (.op (.load1 (.t 121)))⟩ ::
⟨(some 123), none, (.op (.mv (.t 9)))⟩ ::
⟨(some 124), none, (.op (.int .add (.t 123) (.c (Value.int .i64 1))))⟩ ::
⟨(some 125), none, (.op (.mv (.t 10)))⟩ ::
⟨(some 126), none, (.op (.mv (.t 11)))⟩ ::
⟨(some 127), none, (.op (.int .mul (.t 125) (.t 126)))⟩ ::
⟨(some 128), none, (.op (.ixsl 1 (.t 122) (.t 124)))⟩ ::
⟨none, none, (.op (.store 1 (.t 128) (.t 127)))⟩ :: [])) (.seq (.reg (
    ⟨(some 129), none, (.op (.mv (.t 6)))⟩ ::
⟨(some 130), none, (.op (.mv (.t 12)))⟩ ::
⟨(some 131), none, (.op (.mv (.t 13)))⟩ ::
⟨(some 132), none, (.op (.int .mul (.t 130) (.t 131)))⟩ ::
⟨(some 4), none, (.op (.mv (.t 129)))⟩ ::
⟨(some 5), none, (.op (.mv (.t 132)))⟩ :: [])) .ret)))))))))))
def r34 : List ResultVar := [.tmp 4, .tmp 5]
set_option maxRecDepth 1000000 in
set_option maxHeartbeats 4000000 in
theorem fun34 : Fun Try.prog 34 133 2 a34 r34 :=
  ⟨rfl, Try.f34, _, rfl, rfl, rfl, by decide, rfl, rfl, rfl⟩
/-- tumblehome/tumblehomelaw08.Falling -/
noncomputable def a35 : ACode := (.seq (.reg (
    ⟨(some 2), none, (.op (.box (.t 0) 25))⟩ ::
⟨(some 4), none, (.op (.mv (.c (Value.slice none 0 0))))⟩ :: [])) (.seq (.reg (
    ⟨(some 8), none, (.op (.loadn 3 (.t 2)))⟩ ::
⟨(some 9), none, (.op (.mv (.t 1)))⟩ ::
⟨(some 10), none, (.call (.c (Value.func (.func 31) #[] #[])) [(.t 8), (.t 9)])⟩ ::
⟨(some 5), none, (.op (.mv (.t 10)))⟩ :: [])) (.seq (.seq (.reg (
    ⟨(some 6), none, (.op (.mv (.c (Value.int .i64 0))))⟩ :: [])) (.block 0 (.loop (.seq (.seq (.reg (
    ⟨(some 11), none, (.op (.mv (.t 6)))⟩ ::
⟨(some 12), none, (.op (.mv (.t 5)))⟩ ::
⟨(some 13), none, (.op (.len (.t 12)))⟩ ::
⟨(some 14), none, (.op (.int .lss (.t 11) (.t 13)))⟩ :: [])) (.cond (.t 14) .skip (.exit 0))) (.seq (.block 1 (.seq (.reg (
    ⟨(some 7), none, (.op (.mv (.c (Value.int .i64 1))))⟩ :: [])) (.block 2 (.loop (.seq (.seq (.reg (
    ⟨(some 17), none, (.op (.mv (.t 7)))⟩ ::
⟨(some 18), none, (.op (.mv (.t 5)))⟩ ::
⟨(some 19), none, (.op (.mv (.t 6)))⟩ ::
⟨(some 20), none, (.op (.ixsl 1 (.t 18) (.t 19)))⟩ ::
⟨(some 21), none, (.op (.load1 (.t 20)))⟩ ::
⟨(some 22), none, (.op (.len (.t 21)))⟩ ::
⟨(some 23), none, (.op (.int .lss (.t 17) (.t 22)))⟩ :: [])) (.cond (.t 23) .skip (.exit 2))) (.seq (.block 3 (.dreg (
    ⟨(some 26), none, (.op (.mv (.t 5)))⟩ ::
⟨(some 27), none, (.op (.mv (.t 6)))⟩ ::
⟨(some 28), none, (.op (.ixsl 1 (.t 26) (.t 27)))⟩ ::
⟨(some 29), none, (.op (.load1 (.t 28)))⟩ ::
⟨(some 30), none, (.op (.mv (.t 7)))⟩ ::
⟨(some 31), none, (.op (.faddr 2 (.t 2)))⟩ ::
⟨(some 32), none, (.op (.load1 (.t 31)))⟩ ::
⟨(some 33), none, (.op (.mv (.t 6)))⟩ ::
⟨(some 34), none, (.op (.ixsl 1 (.t 32) (.t 33)))⟩ ::
⟨(some 35), none, (.op (.load1 (.t 34)))⟩ ::
⟨(some 36), none, (.op (.mv (.t 7)))⟩ ::
⟨(some 37), none, (.op (.ixsl 2 (.t 35) (.t 36)))⟩ ::
⟨(some 38), none, (.op (.faddr 0 (.t 37)))⟩ ::
⟨(some 39), none, (.op (.load1 (.t 38)))⟩ ::
⟨(some 40), none, (.op (.mv (.t 5)))⟩ ::
⟨(some 41), none, (.op (.mv (.t 6)))⟩ ::
⟨(some 42), none, (.op (.ixsl 1 (.t 40) (.t 41)))⟩ ::
⟨(some 43), none, (.op (.load1 (.t 42)))⟩ ::
⟨(some 44), none, (.op (.mv (.t 7)))⟩ ::
⟨(some 45), none, (.op (.ixsl 1 (.t 43) (.t 44)))⟩ ::
⟨(some 46), none, (.op (.load1 (.t 45)))⟩ ::
⟨(some 47), none, (.op (.mv (.t 5)))⟩ ::
⟨(some 48), none, (.op (.mv (.t 6)))⟩ ::
⟨(some 49), none, (.op (.ixsl 1 (.t 47) (.t 48)))⟩ ::
⟨(some 50), none, (.op (.load1 (.t 49)))⟩ ::
⟨(some 51), none, (.op (.mv (.t 7)))⟩ ::
⟨(some 52), none, (.op (.int .sub (.t 51) (.c (Value.int .i64 1))))⟩ ::
⟨(some 53), none, (.op (.ixsl 1 (.t 50) (.t 52)))⟩ ::
⟨(some 54), none, (.op (.load1 (.t 53)))⟩ ::
⟨(some 55), none, (.op (.mnmx false (.t 46) (.t 54)))⟩ ::
⟨(some 56), none, (.op (.mnmx true (.t 39) (.t 55)))⟩ ::
⟨(some 57), none, (.op (.ixsl 1 (.t 29) (.t 30)))⟩ ::
⟨none, none, (.op (.store 1 (.t 57) (.t 56)))⟩ :: []) [])) (.reg (
    ⟨(some 24), none, (.op (.mv (.t 7)))⟩ ::
⟨(some 25), none, (.op (.int .add (.t 24) (.c (Value.int .i64 1))))⟩ ::
⟨(some 7), none, (.op (.mv (.t 25)))⟩ :: [])))))))) (.reg (
    ⟨(some 15), none, (.op (.mv (.t 6)))⟩ ::
⟨(some 16), none, (.op (.int .add (.t 15) (.c (Value.int .i64 1))))⟩ ::
⟨(some 6), none, (.op (.mv (.t 16)))⟩ :: []))))))) (.seq (.reg (
    ⟨(some 58), none, (.op (.mv (.t 5)))⟩ ::
⟨(some 4), none, (.op (.mv (.t 58)))⟩ :: [])) .ret))))
def r35 : List ResultVar := [.tmp 4]
set_option maxRecDepth 1000000 in
set_option maxHeartbeats 4000000 in
theorem fun35 : Fun Try.prog 35 59 2 a35 r35 :=
  ⟨rfl, Try.f35, _, rfl, rfl, rfl, by decide, rfl, rfl, rfl⟩
/-- tumblehome/tumblehomeref08.Fraction -/
noncomputable def a36 : ACode := (.seq (.reg (
    ⟨(some 4), none, (.op (.alloc [Value.int .i64 0, Value.int .i64 0] 32))⟩ :: [])) (.seq (.reg (
    ⟨(some 7), none, (.op (.mv (.t 0)))⟩ ::
⟨(some 8), none, (.op (.mv (.t 0)))⟩ ::
⟨(some 9), none, (.op (.neg (.t 8)))⟩ ::
⟨(some 10), none, (.op (.mnmx true (.t 7) (.t 9)))⟩ ::
⟨(some 11), none, (.op (.mv (.t 1)))⟩ ::
⟨(some 12), none, (.op (.mv (.t 1)))⟩ ::
⟨(some 13), none, (.op (.neg (.t 12)))⟩ ::
⟨(some 14), none, (.op (.mnmx true (.t 11) (.t 13)))⟩ ::
⟨(some 5), none, (.op (.mv (.t 10)))⟩ ::
⟨(some 6), none, (.op (.mv (.t 14)))⟩ :: [])) (.seq (.block 0 (.loop (.seq (.seq (.reg (
    ⟨(some 15), none, (.op (.mv (.t 6)))⟩ ::
⟨(some 16), none, (.op (.int .neq (.t 15) (.c (Value.int .i64 0))))⟩ :: [])) (.cond (.t 16) .skip (.exit 0))) (.block 1 (.dreg (
    ⟨(some 17), none, (.op (.mv (.t 6)))⟩ ::
⟨(some 18), none, (.op (.mv (.t 5)))⟩ ::
⟨(some 19), none, (.op (.mv (.t 6)))⟩ ::
⟨(some 20), none, (.op (.idiv false (.t 18) (.t 19)))⟩ ::
⟨(some 5), none, (.op (.mv (.t 17)))⟩ ::
⟨(some 6), none, (.op (.mv (.t 20)))⟩ :: []) []))))) (.seq (.seq (.reg (
    ⟨(some 21), none, (.op (.mv (.t 1)))⟩ ::
⟨(some 22), none, (.op (.int .lss (.t 21) (.c (Value.int .i64 0))))⟩ :: [])) (.cond (.t 22) (.reg (
    ⟨(some 23), none, (.op (.mv (.t 0)))⟩ ::
⟨(some 24), none, (.op (.neg (.t 23)))⟩ ::
⟨(some 25), none, (.op (.mv (.t 1)))⟩ ::
⟨(some 26), none, (.op (.neg (.t 25)))⟩ ::
⟨(some 0), none, (.op (.mv (.t 24)))⟩ ::
⟨(some 1), none, (.op (.mv (.t 26)))⟩ :: [])) .skip)) (.seq (.dreg (
    ⟨(some 27), none, (.op (.mv (.t 0)))⟩ ::
⟨(some 28), none, (.op (.mv (.t 5)))⟩ ::
⟨(some 29), none, (.op (.idiv true (.t 27) (.t 28)))⟩ ::
⟨(some 30), none, (.op (.mv (.t 1)))⟩ ::
⟨(some 31), none, (.op (.mv (.t 5)))⟩ ::
⟨(some 32), none, (.op (.idiv true (.t 30) (.t 31)))⟩ ::
⟨(some 33), none, (.op (.build [Value.int .i64 0, Value.int .i64 0] [(0, 1, (.t 29)), (1, 1, (.t 32))]))⟩ ::
⟨none, none, (.op (.store 2 (.t 4) (.t 33)))⟩ :: []) []) .ret)))))
def r36 : List ResultVar := [.cell 4 32]
set_option maxRecDepth 1000000 in
set_option maxHeartbeats 4000000 in
theorem fun36 : Fun Try.prog 36 34 2 a36 r36 :=
  ⟨rfl, Try.f36, _, rfl, rfl, rfl, by decide, rfl, rfl, rfl⟩
/-- tumblehome/tumblehomelaw08.pulled -/
noncomputable def a37 : ACode := (.seq (.reg (
    ⟨(some 4), none, (.op (.box (.t 0) 25))⟩ ::
⟨(some 7), none, (.op (.box (.t 3) 32))⟩ ::
⟨(some 8), none, (.op (.alloc [Value.int .i64 0, Value.int .i64 0] 32))⟩ :: [])) (.seq (.reg (
    ⟨(some 9), none, (.op (.mv (.c (Value.int .i64 0))))⟩ :: [])) (.seq (.block 0 (.loop (.seq (.seq (.dreg (
    ⟨(some 21), none, (.op (.mv (.t 9)))⟩ ::
⟨(some 22), none, (.op (.int .add (.t 21) (.c (Value.int .i64 2))))⟩ ::
⟨(some 23), none, (.op (.faddr 1 (.t 4)))⟩ ::
⟨(some 24), none, (.op (.load1 (.t 23)))⟩ ::
⟨(some 25), none, (.op (.len (.t 24)))⟩ ::
⟨(some 26), none, (.op (.int .lss (.t 22) (.t 25)))⟩ ::
⟨(some 27), none, (.op (.mv (.t 26)))⟩ ::
⟨(some 28), (some (27, true)), (.op (.faddr 1 (.t 4)))⟩ ::
⟨(some 29), (some (27, true)), (.op (.load1 (.t 28)))⟩ ::
⟨(some 30), (some (27, true)), (.op (.mv (.t 9)))⟩ ::
⟨(some 31), (some (27, true)), (.op (.int .add (.t 30) (.c (Value.int .i64 1))))⟩ ::
⟨(some 32), (some (27, true)), (.op (.ixsl 1 (.t 29) (.t 31)))⟩ ::
⟨(some 33), (some (27, true)), (.op (.load1 (.t 32)))⟩ ::
⟨(some 34), (some (27, true)), (.op (.faddr 1 (.t 7)))⟩ ::
⟨(some 35), (some (27, true)), (.op (.load1 (.t 34)))⟩ ::
⟨(some 36), (some (27, true)), (.op (.int .mul (.t 33) (.t 35)))⟩ ::
⟨(some 37), (some (27, true)), (.op (.faddr 0 (.t 7)))⟩ ::
⟨(some 38), (some (27, true)), (.op (.load1 (.t 37)))⟩ ::
⟨(some 39), (some (27, true)), (.op (.int .lss (.t 36) (.t 38)))⟩ ::
⟨(some 40), none, (.op (.pick (.t 27) (.t 39) (.c (Value.bool false))))⟩ :: []) []) (.cond (.t 40) .skip (.exit 0))) (.block 1 (.reg (
    ⟨(some 41), none, (.op (.mv (.t 9)))⟩ ::
⟨(some 42), none, (.op (.int .add (.t 41) (.c (Value.int .i64 1))))⟩ ::
⟨(some 9), none, (.op (.mv (.t 42)))⟩ :: [])))))) (.seq (.dreg (
    ⟨(some 43), none, (.op (.faddr 1 (.t 4)))⟩ ::
⟨(some 44), none, (.op (.load1 (.t 43)))⟩ ::
⟨(some 45), none, (.op (.mv (.t 9)))⟩ ::
⟨(some 46), none, (.op (.ixsl 1 (.t 44) (.t 45)))⟩ ::
⟨(some 47), none, (.op (.load1 (.t 46)))⟩ ::
⟨(some 48), none, (.op (.faddr 1 (.t 4)))⟩ ::
⟨(some 49), none, (.op (.load1 (.t 48)))⟩ ::
⟨(some 50), none, (.op (.mv (.t 9)))⟩ ::
⟨(some 51), none, (.op (.int .add (.t 50) (.c (Value.int .i64 1))))⟩ ::
⟨(some 52), none, (.op (.ixsl 1 (.t 49) (.t 51)))⟩ ::
⟨(some 53), none, (.op (.load1 (.t 52)))⟩ ::
⟨(some 10), none, (.op (.mv (.t 47)))⟩ ::
⟨(some 11), none, (.op (.mv (.t 53)))⟩ :: []) []) (.seq (.reg (
    ⟨(some 55), none, (.op (.loadn 3 (.t 4)))⟩ ::
⟨(some 56), none, (.op (.mv (.t 1)))⟩ ::
⟨(some 57), none, (.op (.mv (.t 2)))⟩ ::
⟨(some 58), none, (.op (.mv (.t 10)))⟩ ::
⟨(some 59), none, (.op (.build [Value.int .i64 0, Value.int .i64 0] [(0, 1, (.t 57)), (1, 1, (.t 58))]))⟩ ::
⟨(some 60), none, (.call (.c (Value.func (.func 16) #[] #[])) [(.t 55), (.t 56), (.t 59)])⟩ ::
⟨(some 54), none, (.op (.mv (.t 60)))⟩ ::
⟨(some 61), none, (.op (.extract (.t 54) 0))⟩ ::
⟨(some 62), none, (.op (.extract (.t 54) 1))⟩ ::
⟨(some 12), none, (.op (.alloc [Value.int .i64 0, Value.int .i64 0] 32))⟩ ::
⟨none, none, (.op (.store 2 (.t 12) (.t 61)))⟩ ::
⟨(some 13), none, (.op (.mv (.t 62)))⟩ :: [])) (.seq (.reg (
    ⟨(some 64), none, (.op (.loadn 3 (.t 4)))⟩ ::
⟨(some 65), none, (.op (.mv (.t 1)))⟩ ::
⟨(some 66), none, (.op (.mv (.t 2)))⟩ ::
⟨(some 67), none, (.op (.mv (.t 11)))⟩ ::
⟨(some 68), none, (.op (.build [Value.int .i64 0, Value.int .i64 0] [(0, 1, (.t 66)), (1, 1, (.t 67))]))⟩ ::
⟨(some 69), none, (.call (.c (Value.func (.func 16) #[] #[])) [(.t 64), (.t 65), (.t 68)])⟩ ::
⟨(some 63), none, (.op (.mv (.t 69)))⟩ ::
⟨(some 70), none, (.op (.extract (.t 63) 0))⟩ ::
⟨(some 71), none, (.op (.extract (.t 63) 1))⟩ ::
⟨(some 14), none, (.op (.alloc [Value.int .i64 0, Value.int .i64 0] 32))⟩ ::
⟨none, none, (.op (.store 2 (.t 14) (.t 70)))⟩ ::
⟨(some 15), none, (.op (.mv (.t 71)))⟩ :: [])) (.seq (.reg (
    ⟨(some 72), none, (.op (.faddr 1 (.t 12)))⟩ ::
⟨(some 73), none, (.op (.load1 (.t 72)))⟩ ::
⟨(some 74), none, (.op (.faddr 1 (.t 14)))⟩ ::
⟨(some 75), none, (.op (.load1 (.t 74)))⟩ ::
⟨(some 76), none, (.op (.int .mul (.t 73) (.t 75)))⟩ ::
⟨(some 16), none, (.op (.mv (.t 76)))⟩ :: [])) (.seq (.dreg (
    ⟨(some 77), none, (.op (.faddr 0 (.t 12)))⟩ ::
⟨(some 78), none, (.op (.load1 (.t 77)))⟩ ::
⟨(some 79), none, (.op (.faddr 1 (.t 14)))⟩ ::
⟨(some 80), none, (.op (.load1 (.t 79)))⟩ ::
⟨(some 81), none, (.op (.int .mul (.t 78) (.t 80)))⟩ ::
⟨(some 82), none, (.op (.faddr 0 (.t 14)))⟩ ::
⟨(some 83), none, (.op (.load1 (.t 82)))⟩ ::
⟨(some 84), none, (.op (.faddr 1 (.t 12)))⟩ ::
⟨(some 85), none, (.op (.load1 (.t 84)))⟩ ::
⟨(some 86), none, (.op (.int .mul (.t 83) (.t 85)))⟩ ::
⟨(some 17), none, (.op (.mv (.t 81)))⟩ ::
⟨(some 18), none, (.op (.mv (.t 86)))⟩ :: []) []) (.seq (.reg (
    ⟨(some 87), none, (.op (.faddr 0 (.t 7)))⟩ ::
⟨(some 88), none, (.op (.load1 (.t 87)))⟩ ::
⟨(some 89), none, (.op (.mv (.t 10)))⟩ ::
⟨(some 90), none, (.op (.faddr 1 (.t 7)))⟩ ::
⟨(some 91), none, (.op (.load1 (.t 90)))⟩ ::
⟨(some 92), none, (.op (.int .mul (.t 89) (.t 91)))⟩ ::
⟨(some 93), none, (.op (.int .sub (.t 88) (.t 92)))⟩ ::
⟨(some 94), none, (.op (.mv (.t 11)))⟩ ::
⟨(some 95), none, (.op (.mv (.t 10)))⟩ ::
⟨(some 96), none, (.op (.int .sub (.t 94) (.t 95)))⟩ ::
⟨(some 97), none, (.op (.faddr 1 (.t 7)))⟩ ::
⟨(some 98), none, (.op (.load1 (.t 97)))⟩ ::
⟨(some 99), none, (.op (.int .mul (.t 96) (.t 98)))⟩ ::
⟨(some 100), none, (.call (.c (Value.func (.func 36) #[] #[])) [(.t 93), (.t 99)])⟩ ::
⟨(some 19), none, (.op (.alloc [Value.int .i64 0, Value.int .i64 0] 32))⟩ ::
⟨none, none, (.op (.store 2 (.t 19) (.t 100)))⟩ :: [])) (.seq (.reg (
    ⟨(some 101), none, (.op (.mv (.t 18)))⟩ ::
⟨(some 102), none, (.op (.mv (.t 17)))⟩ ::
⟨(some 103), none, (.op (.int .sub (.t 101) (.t 102)))⟩ ::
⟨(some 104), none, (.op (.mv (.t 16)))⟩ ::
⟨(some 105), none, (.call (.c (Value.func (.func 36) #[] #[])) [(.t 103), (.t 104)])⟩ ::
⟨(some 20), none, (.op (.alloc [Value.int .i64 0, Value.int .i64 0] 32))⟩ ::
⟨none, none, (.op (.store 2 (.t 20) (.t 105)))⟩ :: [])) (.seq (.dreg (
    ⟨(some 106), none, (.op (.mv (.t 17)))⟩ ::
⟨(some 107), none, (.op (.mv (.t 16)))⟩ ::
⟨(some 108), none, (.call (.c (Value.func (.func 36) #[] #[])) [(.t 106), (.t 107)])⟩ ::
⟨(some 109), none, (.op (.loadn 2 (.t 20)))⟩ ::
⟨(some 110), none, (.op (.loadn 2 (.t 19)))⟩ ::
⟨(some 111), none, (.call (.c (Value.func (.func 80) #[] #[])) [(.t 109), (.t 110)])⟩ ::
⟨(some 112), none, (.call (.c (Value.func (.func 79) #[] #[])) [(.t 108), (.t 111)])⟩ ::
⟨none, none, (.op (.store 2 (.t 8) (.t 112)))⟩ :: []) []) .ret)))))))))))
def r37 : List ResultVar := [.cell 8 32]
set_option maxRecDepth 1000000 in
set_option maxHeartbeats 4000000 in
theorem fun37 : Fun Try.prog 37 113 4 a37 r37 :=
  ⟨rfl, Try.f37, _, rfl, rfl, rfl, by decide, rfl, rfl, rfl⟩
/-- tumblehome/tumblehomelaw08.notAbove -/
noncomputable def a38 : ACode := (.seq (.reg (
    ⟨(some 2), none, (.op (.box (.t 0) 32))⟩ ::
⟨(some 3), none, (.op (.box (.t 1) 32))⟩ ::
⟨(some 4), none, (.op (.mv (.c (Value.bool false))))⟩ :: [])) (.seq (.seq (.reg (
    ⟨(some 12), none, (.op (.faddr 1 (.t 2)))⟩ ::
⟨(some 13), none, (.op (.load1 (.t 12)))⟩ ::
⟨(some 14), none, (.op (.int .lss (.t 13) (.c (Value.int .i64 1))))⟩ ::
⟨(some 15), none, (.op (.mv (.t 14)))⟩ ::
⟨(some 16), (some (15, false)), (.op (.faddr 1 (.t 3)))⟩ ::
⟨(some 17), (some (15, false)), (.op (.load1 (.t 16)))⟩ ::
⟨(some 18), (some (15, false)), (.op (.int .lss (.t 17) (.c (Value.int .i64 1))))⟩ ::
⟨(some 19), none, (.op (.pick (.t 15) (.c (Value.bool true)) (.t 18)))⟩ ::
⟨(some 20), none, (.op (.mv (.t 19)))⟩ ::
⟨(some 21), (some (20, false)), (.op (.faddr 1 (.t 2)))⟩ ::
⟨(some 22), (some (20, false)), (.op (.load1 (.t 21)))⟩ ::
⟨(some 23), (some (20, false)), (.op (.int .gtr (.t 22) (.c (Value.int .i64 70368744177664))))⟩ ::
⟨(some 24), none, (.op (.pick (.t 20) (.c (Value.bool true)) (.t 23)))⟩ ::
⟨(some 25), none, (.op (.mv (.t 24)))⟩ ::
⟨(some 26), (some (25, false)), (.op (.faddr 1 (.t 3)))⟩ ::
⟨(some 27), (some (25, false)), (.op (.load1 (.t 26)))⟩ ::
⟨(some 28), (some (25, false)), (.op (.int .gtr (.t 27) (.c (Value.int .i64 70368744177664))))⟩ ::
⟨(some 29), none, (.op (.pick (.t 25) (.c (Value.bool true)) (.t 28)))⟩ :: [])) (.cond (.t 29) (.seq (.reg (
    ⟨(some 4), none, (.op (.mv (.c (Value.bool false))))⟩ :: [])) .ret) .skip)) (.seq (.dreg (
    ⟨(some 30), none, (.op (.loadn 2 (.t 2)))⟩ ::
⟨(some 31), none, (.op (.loadn 2 (.t 3)))⟩ ::
⟨(some 5), none, (.op (.alloc [Value.int .i64 0, Value.int .i64 0] 32))⟩ ::
⟨(some 6), none, (.op (.alloc [Value.int .i64 0, Value.int .i64 0] 32))⟩ ::
⟨none, none, (.op (.store 2 (.t 5) (.t 30)))⟩ ::
⟨none, none, (.op (.store 2 (.t 6) (.t 31)))⟩ :: []) [((.t 3), (.t 5))]) (.seq (.seq (.reg (
    ⟨(some 7), none, (.op (.mv (.c (Value.int .i64 0))))⟩ :: [])) (.block 0 (.loop (.seq (.seq (.reg (
    ⟨(some 32), none, (.op (.mv (.t 7)))⟩ ::
⟨(some 33), none, (.op (.int .lss (.t 32) (.c (Value.int .i64 200))))⟩ :: [])) (.cond (.t 33) .skip (.exit 0))) (.seq (.block 1 (.seq (.dreg (
    ⟨(some 36), none, (.op (.loadn 2 (.t 5)))⟩ ::
⟨(some 37), none, (.call (.c (Value.func (.func 81) #[] #[])) [(.t 36)])⟩ ::
⟨(some 38), none, (.op (.loadn 2 (.t 6)))⟩ ::
⟨(some 39), none, (.call (.c (Value.func (.func 81) #[] #[])) [(.t 38)])⟩ ::
⟨(some 8), none, (.op (.mv (.t 37)))⟩ ::
⟨(some 9), none, (.op (.mv (.t 39)))⟩ :: []) []) (.seq (.seq (.reg (
    ⟨(some 40), none, (.op (.mv (.t 8)))⟩ ::
⟨(some 41), none, (.op (.mv (.t 9)))⟩ ::
⟨(some 42), none, (.op (.int .neq (.t 40) (.t 41)))⟩ :: [])) (.cond (.t 42) (.seq (.reg (
    ⟨(some 43), none, (.op (.mv (.t 8)))⟩ ::
⟨(some 44), none, (.op (.mv (.t 9)))⟩ ::
⟨(some 45), none, (.op (.int .lss (.t 43) (.t 44)))⟩ ::
⟨(some 46), none, (.op (.mv (.t 7)))⟩ ::
⟨(some 47), none, (.op (.idiv false (.t 46) (.c (Value.int .i64 2))))⟩ ::
⟨(some 48), none, (.op (.int .eql (.t 47) (.c (Value.int .i64 0))))⟩ ::
⟨(some 49), none, (.op (.pure (rawOp Try.f38 9 6)))⟩ ::
⟨(some 4), none, (.op (.mv (.t 49)))⟩ :: [])) .ret) .skip)) (.seq (.dreg (
    ⟨(some 50), none, (.op (.faddr 0 (.t 5)))⟩ ::
⟨(some 51), none, (.op (.load1 (.t 50)))⟩ ::
⟨(some 52), none, (.op (.mv (.t 8)))⟩ ::
⟨(some 53), none, (.op (.faddr 1 (.t 5)))⟩ ::
⟨(some 54), none, (.op (.load1 (.t 53)))⟩ ::
⟨(some 55), none, (.op (.int .mul (.t 52) (.t 54)))⟩ ::
⟨(some 56), none, (.op (.int .sub (.t 51) (.t 55)))⟩ ::
⟨(some 57), none, (.op (.faddr 0 (.t 6)))⟩ ::
⟨(some 58), none, (.op (.load1 (.t 57)))⟩ ::
⟨(some 59), none, (.op (.mv (.t 9)))⟩ ::
⟨(some 60), none, (.op (.faddr 1 (.t 6)))⟩ ::
⟨(some 61), none, (.op (.load1 (.t 60)))⟩ ::
⟨(some 62), none, (.op (.int .mul (.t 59) (.t 61)))⟩ ::
⟨(some 63), none, (.op (.int .sub (.t 58) (.t 62)))⟩ ::
⟨(some 10), none, (.op (.mv (.t 56)))⟩ ::
⟨(some 11), none, (.op (.mv (.t 63)))⟩ :: []) []) (.seq (.seq (.reg (
    ⟨(some 64), none, (.op (.mv (.t 10)))⟩ ::
⟨(some 65), none, (.op (.int .eql (.t 64) (.c (Value.int .i64 0))))⟩ ::
⟨(some 66), none, (.op (.mv (.t 65)))⟩ ::
⟨(some 67), (some (66, false)), (.op (.mv (.t 11)))⟩ ::
⟨(some 68), (some (66, false)), (.op (.int .eql (.t 67) (.c (Value.int .i64 0))))⟩ ::
⟨(some 69), none, (.op (.pick (.t 66) (.c (Value.bool true)) (.t 68)))⟩ :: [])) (.cond (.t 69) (.seq (.reg (
    ⟨(some 70), none, (.op (.mv (.t 10)))⟩ ::
⟨(some 71), none, (.op (.mv (.t 11)))⟩ ::
⟨(some 72), none, (.op (.int .eql (.t 70) (.t 71)))⟩ ::
⟨(some 73), none, (.op (.mv (.t 72)))⟩ ::
⟨(some 74), (some (73, false)), (.op (.mv (.t 10)))⟩ ::
⟨(some 75), (some (73, false)), (.op (.int .eql (.t 74) (.c (Value.int .i64 0))))⟩ ::
⟨(some 76), (some (73, false)), (.op (.mv (.t 7)))⟩ ::
⟨(some 77), (some (73, false)), (.op (.idiv false (.t 76) (.c (Value.int .i64 2))))⟩ ::
⟨(some 78), (some (73, false)), (.op (.int .eql (.t 77) (.c (Value.int .i64 0))))⟩ ::
⟨(some 79), (some (73, false)), (.op (.pure (rawOp Try.f38 12 9)))⟩ ::
⟨(some 80), none, (.op (.pick (.t 73) (.c (Value.bool true)) (.t 79)))⟩ ::
⟨(some 4), none, (.op (.mv (.t 80)))⟩ :: [])) .ret) .skip)) (.dreg (
    ⟨(some 81), none, (.op (.faddr 1 (.t 5)))⟩ ::
⟨(some 82), none, (.op (.load1 (.t 81)))⟩ ::
⟨(some 83), none, (.op (.mv (.t 10)))⟩ ::
⟨(some 84), none, (.op (.build [Value.int .i64 0, Value.int .i64 0] [(0, 1, (.t 82)), (1, 1, (.t 83))]))⟩ ::
⟨(some 85), none, (.op (.faddr 1 (.t 6)))⟩ ::
⟨(some 86), none, (.op (.load1 (.t 85)))⟩ ::
⟨(some 87), none, (.op (.mv (.t 11)))⟩ ::
⟨(some 88), none, (.op (.build [Value.int .i64 0, Value.int .i64 0] [(0, 1, (.t 86)), (1, 1, (.t 87))]))⟩ ::
⟨none, none, (.op (.store 2 (.t 5) (.t 84)))⟩ ::
⟨none, none, (.op (.store 2 (.t 6) (.t 88)))⟩ :: []) [((.t 85), (.t 5))])))))) (.reg (
    ⟨(some 34), none, (.op (.mv (.t 7)))⟩ ::
⟨(some 35), none, (.op (.int .add (.t 34) (.c (Value.int .i64 1))))⟩ ::
⟨(some 7), none, (.op (.mv (.t 35)))⟩ :: []))))))) (.seq (.reg (
    ⟨(some 4), none, (.op (.mv (.c (Value.bool false))))⟩ :: [])) .ret)))))
def r38 : List ResultVar := [.tmp 4]
set_option maxRecDepth 1000000 in
set_option maxHeartbeats 4000000 in
theorem fun38 : Fun Try.prog 38 89 2 a38 r38 :=
  ⟨rfl, Try.f38, _, rfl, rfl, rfl, by decide, rfl, rfl, rfl⟩
/-- tumblehome/chart.More -/
noncomputable def a39 : ACode := (.seq (.reg (
    ⟨(some 3), none, (.op (.box (.t 0) 25))⟩ ::
⟨(some 4), none, (.op (.box (.t 1) 28))⟩ ::
⟨(some 5), none, (.op (.box (.t 2) 28))⟩ ::
⟨(some 6), none, (.op (.alloc [Value.int .i64 0, Value.int .i64 0, Value.int .i64 0, Value.int .i64 0] 37))⟩ ::
⟨(some 7), none, (.op (.mv (.c (Value.int .i64 0))))⟩ :: [])) (.seq (.reg (
    ⟨(some 11), none, (.op (.loadn 3 (.t 3)))⟩ ::
⟨(some 12), none, (.op (.loadn 2 (.t 4)))⟩ ::
⟨(some 13), none, (.op (.loadn 2 (.t 5)))⟩ ::
⟨(some 14), none, (.op (.bslice [Value.int .i64 0, Value.int .i64 0, Value.int .i64 0, Value.int .i64 0] [(0, 2, (.t 12)), (2, 2, (.t 13))] 2 28))⟩ ::
⟨(some 15), none, (.call (.c (Value.func (.func 54) #[] #[])) [(.t 11), (.t 14)])⟩ ::
⟨(some 10), none, (.op (.mv (.t 15)))⟩ ::
⟨(some 16), none, (.op (.extract (.t 10) 0))⟩ ::
⟨(some 17), none, (.op (.extract (.t 10) 1))⟩ ::
⟨(some 8), none, (.op (.alloc [Value.slice none 0 0, Value.slice none 0 0, Value.slice none 0 0] 84))⟩ ::
⟨none, none, (.op (.store 3 (.t 8) (.t 16)))⟩ ::
⟨(some 9), none, (.op (.mv (.t 17)))⟩ :: [])) (.seq (.seq (.reg (
    ⟨(some 18), none, (.op (.mv (.t 9)))⟩ ::
⟨(some 19), none, (.op (.int .neq (.t 18) (.c (Value.int .i64 0))))⟩ :: [])) (.cond (.t 19) (.seq (.reg (
    ⟨(some 20), none, (.op (.build [Value.int .i64 0, Value.int .i64 0, Value.int .i64 0, Value.int .i64 0] []))⟩ ::
⟨(some 21), none, (.op (.mv (.t 9)))⟩ ::
⟨none, none, (.op (.store 4 (.t 6) (.t 20)))⟩ ::
⟨(some 7), none, (.op (.mv (.t 21)))⟩ :: [])) .ret) .skip)) (.seq (.dreg (
    ⟨(some 22), none, (.op (.loadn 3 (.t 8)))⟩ ::
⟨(some 23), none, (.op (.loadn 2 (.t 4)))⟩ ::
⟨(some 24), none, (.op (.loadn 2 (.t 5)))⟩ ::
⟨(some 25), none, (.call (.c (Value.func (.func 77) #[] #[])) [(.t 22), (.t 23), (.t 24), (.c (Value.bool false))])⟩ ::
⟨(some 26), none, (.op (.loadn 3 (.t 8)))⟩ ::
⟨(some 27), none, (.op (.loadn 2 (.t 4)))⟩ ::
⟨(some 28), none, (.op (.loadn 2 (.t 5)))⟩ ::
⟨(some 29), none, (.call (.c (Value.func (.func 77) #[] #[])) [(.t 26), (.t 27), (.t 28), (.c (Value.bool true))])⟩ ::
⟨(some 30), none, (.op (.build [Value.int .i64 0, Value.int .i64 0, Value.int .i64 0, Value.int .i64 0] [(0, 2, (.t 25)), (2, 2, (.t 29))]))⟩ ::
⟨none, none, (.op (.store 4 (.t 6) (.t 30)))⟩ ::
⟨(some 7), none, (.op (.mv (.c (Value.int .i64 0))))⟩ :: []) []) .ret))))
def r39 : List ResultVar := [.cell 6 37, .tmp 7]
set_option maxRecDepth 1000000 in
set_option maxHeartbeats 4000000 in
theorem fun39 : Fun Try.prog 39 31 3 a39 r39 :=
  ⟨rfl, Try.f39, _, rfl, rfl, rfl, by decide, rfl, rfl, rfl⟩
/-- tumblehome/tumblehomelaw08.whole -/
noncomputable def a45 : ACode := (.seq (.reg (
    ⟨(some 4), none, (.op (.alloc [Value.int .i64 0, Value.int .i64 0, Value.int .i64 0, Value.int .i64 0] 37))⟩ :: [])) (.seq (.reg (
    ⟨(some 5), none, (.op (.mv (.t 0)))⟩ ::
⟨(some 6), none, (.op (.build [Value.int .i64 0, Value.int .i64 0] [(0, 1, (.t 5)), (1, 1, (.c (Value.int .i64 1)))]))⟩ ::
⟨(some 7), none, (.op (.mv (.t 1)))⟩ ::
⟨(some 8), none, (.op (.build [Value.int .i64 0, Value.int .i64 0] [(0, 1, (.t 7)), (1, 1, (.c (Value.int .i64 1)))]))⟩ ::
⟨(some 9), none, (.op (.build [Value.int .i64 0, Value.int .i64 0, Value.int .i64 0, Value.int .i64 0] [(0, 2, (.t 6)), (2, 2, (.t 8))]))⟩ ::
⟨none, none, (.op (.store 4 (.t 4) (.t 9)))⟩ :: [])) .ret))
def r45 : List ResultVar := [.cell 4 37]
set_option maxRecDepth 1000000 in
set_option maxHeartbeats 4000000 in
theorem fun45 : Fun Try.prog 45 10 2 a45 r45 :=
  ⟨rfl, Try.f45, _, rfl, rfl, rfl, by decide, rfl, rfl, rfl⟩
/-- tumblehome/tumblehomelaw08.Chart -/
noncomputable def a47 : ACode := (.seq (.reg (
    ⟨(some 0), none, (.op (.alloc [Value.slice none 0 0, Value.slice none 0 0, Value.slice none 0 0] 25))⟩ :: [])) (.seq (.reg (
    ⟨(some 1), none, (.op (.bslice [Value.int .i64 0, Value.int .i64 0] [(0, 1, (.c (Value.int .i64 800))), (1, 1, (.c (Value.int .i64 1000)))] 2 2))⟩ ::
⟨(some 2), none, (.op (.bslice [Value.int .i64 0, Value.int .i64 0, Value.int .i64 0] [(0, 1, (.c (Value.int .i64 0))), (1, 1, (.c (Value.int .i64 400))), (2, 1, (.c (Value.int .i64 800)))] 3 2))⟩ ::
⟨(some 3), none, (.op (.build [Value.int .i64 0, Value.int .i64 0] [(0, 1, (.c (Value.int .i64 90))), (1, 1, (.c (Value.int .i64 100)))]))⟩ ::
⟨(some 4), none, (.op (.build [Value.int .i64 0, Value.int .i64 0] [(0, 1, (.c (Value.int .i64 50))), (1, 1, (.c (Value.int .i64 60)))]))⟩ ::
⟨(some 5), none, (.op (.build [Value.int .i64 0, Value.int .i64 0] [(0, 1, (.c (Value.int .i64 10))), (1, 1, (.c (Value.int .i64 10)))]))⟩ ::
⟨(some 6), none, (.op (.bslice [Value.int .i64 0, Value.int .i64 0, Value.int .i64 0, Value.int .i64 0, Value.int .i64 0, Value.int .i64 0] [(0, 2, (.t 3)), (2, 2, (.t 4)), (4, 2, (.t 5))] 3 65))⟩ ::
⟨(some 7), none, (.op (.build [Value.int .i64 0, Value.int .i64 0] [(0, 1, (.c (Value.int .i64 110))), (1, 1, (.c (Value.int .i64 120)))]))⟩ ::
⟨(some 8), none, (.op (.build [Value.int .i64 0, Value.int .i64 0] [(0, 1, (.c (Value.int .i64 70))), (1, 1, (.c (Value.int .i64 80)))]))⟩ ::
⟨(some 9), none, (.op (.build [Value.int .i64 0, Value.int .i64 0] [(0, 1, (.c (Value.int .i64 20))), (1, 1, (.c (Value.int .i64 40)))]))⟩ ::
⟨(some 10), none, (.op (.bslice [Value.int .i64 0, Value.int .i64 0, Value.int .i64 0, Value.int .i64 0, Value.int .i64 0, Value.int .i64 0] [(0, 2, (.t 7)), (2, 2, (.t 8)), (4, 2, (.t 9))] 3 65))⟩ ::
⟨(some 11), none, (.op (.bslice [Value.slice none 0 0, Value.slice none 0 0] [(0, 1, (.t 6)), (1, 1, (.t 10))] 2 66))⟩ ::
⟨(some 12), none, (.op (.build [Value.slice none 0 0, Value.slice none 0 0, Value.slice none 0 0] [(0, 1, (.t 1)), (1, 1, (.t 2)), (2, 1, (.t 11))]))⟩ ::
⟨none, none, (.op (.store 3 (.t 0) (.t 12)))⟩ :: [])) .ret))
def r47 : List ResultVar := [.cell 0 25]
set_option maxRecDepth 1000000 in
set_option maxHeartbeats 4000000 in
theorem fun47 : Fun Try.prog 47 13 0 a47 r47 :=
  ⟨rfl, Try.f47, _, rfl, rfl, rfl, by decide, rfl, rfl, rfl⟩
/-- tumblehome/tumblehomelaw08.At -/
noncomputable def a48 : ACode := (.seq (.reg (
    ⟨(some 4), none, (.op (.alloc [Value.int .i64 0, Value.int .i64 0] 28))⟩ :: [])) (.seq (.reg (
    ⟨(some 5), none, (.op (.mv (.t 0)))⟩ ::
⟨(some 6), none, (.op (.mv (.t 1)))⟩ ::
⟨(some 7), none, (.op (.build [Value.int .i64 0, Value.int .i64 0] [(0, 1, (.t 5)), (1, 1, (.t 6))]))⟩ ::
⟨none, none, (.op (.store 2 (.t 4) (.t 7)))⟩ :: [])) .ret))
def r48 : List ResultVar := [.cell 4 28]
set_option maxRecDepth 1000000 in
set_option maxHeartbeats 4000000 in
theorem fun48 : Fun Try.prog 48 8 2 a48 r48 :=
  ⟨rfl, Try.f48, _, rfl, rfl, rfl, by decide, rfl, rfl, rfl⟩
/-- (tumblehome/chart.sheet).on -/
noncomputable def a49 : ACode := (.seq (.reg (
    ⟨(some 2), none, (.op (.box (.t 0) 84))⟩ ::
⟨(some 4), none, (.op (.mv (.c (Value.bool false))))⟩ :: [])) (.seq (.reg (
    ⟨(some 5), none, (.op (.mv (.t 1)))⟩ ::
⟨(some 6), none, (.op (.mkfn (Fn.func 87) [] [(.t 2)]))⟩ ::
⟨(some 7), none, (.call (.c (Value.func (.func 75) #[] #[])) [(.t 5), (.t 6)])⟩ ::
⟨(some 8), none, (.op (.not (.t 7)))⟩ ::
⟨(some 4), none, (.op (.mv (.t 8)))⟩ :: [])) .ret))
def r49 : List ResultVar := [.tmp 4]
set_option maxRecDepth 1000000 in
set_option maxHeartbeats 4000000 in
theorem fun49 : Fun Try.prog 49 9 2 a49 r49 :=
  ⟨rfl, Try.f49, _, rfl, rfl, rfl, by decide, rfl, rfl, rfl⟩
/-- (tumblehome/chart.sheet).value -/
noncomputable def a50A0 : ACode := (.seq (.reg (
    ⟨(some 8), none, (.op (.alloc [Value.int .i64 0, Value.int .i64 0] 88))⟩ ::
⟨none, none, (.op (.store 2 (.t 8) (.t 13)))⟩ :: [])) (.reg (
    ⟨(some 9), none, (.op (.mv (.t 14)))⟩ :: [])))
noncomputable def a50B0 : ACode := (.block 1 (.dreg (
    ⟨(some 15), none, (.op (.load1 (.t 7)))⟩ ::
⟨(some 16), none, (.op (.mv (.t 9)))⟩ ::
⟨(some 17), none, (.op (.load1 (.t 5)))⟩ ::
⟨(some 18), none, (.op (.loadn 2 (.t 8)))⟩ ::
⟨(some 19), none, (.call (.t 17) [(.t 18)])⟩ ::
⟨(some 20), none, (.op (.int .mul (.t 16) (.t 19)))⟩ ::
⟨(some 21), none, (.op (.int .add (.t 15) (.t 20)))⟩ ::
⟨none, none, (.op (.store 1 (.t 7) (.t 21)))⟩ :: []) []))
set_option maxRecDepth 1000000 in
set_option maxHeartbeats 4000000 in
theorem c50A0 : cCode Try.prog 28 false (rfAt Try.f50 0).1 = some a50A0 := rfl
set_option maxRecDepth 1000000 in
set_option maxHeartbeats 4000000 in
theorem c50B0 : cCode Try.prog 28 false (rfAt Try.f50 0).2 = some a50B0 := rfl
noncomputable def a50 : ACode := (.seq (.reg (
    ⟨(some 3), none, (.op (.box (.t 0) 84))⟩ ::
⟨(some 4), none, (.op (.box (.t 1) 28))⟩ ::
⟨(some 5), none, (.op (.box (.t 2) 89))⟩ ::
⟨(some 6), none, (.op (.alloc [Value.int .i64 0, Value.int .i64 0] 32))⟩ :: [])) (.seq (.reg (
    ⟨(some 7), none, (.op (.alloc [Value.int .i64 0] 2))⟩ ::
⟨none, none, (.op (.store 1 (.t 7) (.c (Value.int .i64 0))))⟩ :: [])) (.seq (.seq (.reg (
    ⟨(some 10), none, (.op (.loadn 3 (.t 3)))⟩ ::
⟨(some 11), none, (.op (.loadn 2 (.t 4)))⟩ ::
⟨(some 12), none, (.call (.c (Value.func (.func 89) #[] #[])) [(.t 10), (.t 11)])⟩ :: [])) (.block 0 (.range (.t 12) [13, 14] 28 (rfAt Try.f50 0).1 (rfAt Try.f50 0).2 a50A0 a50B0))) (.seq (.dreg (
    ⟨(some 22), none, (.op (.loadn 3 (.t 3)))⟩ ::
⟨(some 23), none, (.op (.load1 (.t 7)))⟩ ::
⟨(some 24), none, (.op (.loadn 3 (.t 3)))⟩ ::
⟨(some 25), none, (.op (.loadn 2 (.t 4)))⟩ ::
⟨(some 26), none, (.call (.c (Value.func (.func 91) #[] #[])) [(.t 24), (.t 25)])⟩ ::
⟨(some 27), none, (.call (.c (Value.func (.func 90) #[] #[])) [(.t 22), (.t 23), (.t 26)])⟩ ::
⟨none, none, (.op (.store 2 (.t 6) (.t 27)))⟩ :: []) []) .ret))))
def r50 : List ResultVar := [.cell 6 32]
set_option maxRecDepth 1000000 in
set_option maxHeartbeats 4000000 in
theorem fun50 : Fun Try.prog 50 28 3 a50 r50 :=
  ⟨rfl, Try.f50, _, rfl, rfl, rfl, by decide, rfl, rfl, rfl⟩
/-- tumblehome/chart.Value$1 -/
noncomputable def a51 : ACode := (.seq (.reg (
    ⟨(some 2), none, (.op (.box (.t 0) 88))⟩ ::
⟨(some 3), none, (.op (.mv (.c (Value.int .i64 0))))⟩ :: [])) (.seq (.dreg (
    ⟨(some 4), none, (.op (.load1 (.t 1)))⟩ ::
⟨(some 5), none, (.op (.faddr 0 (.t 2)))⟩ ::
⟨(some 6), none, (.op (.load1 (.t 5)))⟩ ::
⟨(some 7), none, (.op (.ixsl 1 (.t 4) (.t 6)))⟩ ::
⟨(some 8), none, (.op (.load1 (.t 7)))⟩ ::
⟨(some 9), none, (.op (.faddr 1 (.t 2)))⟩ ::
⟨(some 10), none, (.op (.load1 (.t 9)))⟩ ::
⟨(some 11), none, (.op (.ixsl 1 (.t 8) (.t 10)))⟩ ::
⟨(some 12), none, (.op (.load1 (.t 11)))⟩ ::
⟨(some 3), none, (.op (.mv (.t 12)))⟩ :: []) []) .ret))
def r51 : List ResultVar := [.tmp 3]
set_option maxRecDepth 1000000 in
set_option maxHeartbeats 4000000 in
theorem fun51 : Fun Try.prog 51 13 2 a51 r51 :=
  ⟨rfl, Try.f51, _, rfl, rfl, rfl, by decide, rfl, rfl, rfl⟩
/-- tumblehome/tumblehomeref08.On -/
noncomputable def a52 : ACode := (.seq (.reg (
    ⟨(some 2), none, (.op (.box (.t 0) 25))⟩ ::
⟨(some 3), none, (.op (.box (.t 1) 28))⟩ ::
⟨(some 4), none, (.op (.mv (.c (Value.bool false))))⟩ :: [])) (.seq (.reg (
    ⟨(some 5), none, (.op (.faddr 0 (.t 2)))⟩ ::
⟨(some 6), none, (.op (.load1 (.t 5)))⟩ ::
⟨(some 7), none, (.op (.faddr 0 (.t 3)))⟩ ::
⟨(some 8), none, (.op (.load1 (.t 7)))⟩ ::
⟨(some 9), none, (.call (.c (Value.func (.func 70) #[] #[])) [(.t 6), (.t 8)])⟩ ::
⟨(some 10), none, (.op (.mv (.t 9)))⟩ ::
⟨(some 11), (some (10, true)), (.op (.faddr 1 (.t 2)))⟩ ::
⟨(some 12), (some (10, true)), (.op (.load1 (.t 11)))⟩ ::
⟨(some 13), (some (10, true)), (.op (.faddr 1 (.t 3)))⟩ ::
⟨(some 14), (some (10, true)), (.op (.load1 (.t 13)))⟩ ::
⟨(some 15), (some (10, true)), (.call (.c (Value.func (.func 70) #[] #[])) [(.t 12), (.t 14)])⟩ ::
⟨(some 16), none, (.op (.pick (.t 10) (.t 15) (.c (Value.bool false))))⟩ ::
⟨(some 4), none, (.op (.mv (.t 16)))⟩ :: [])) .ret))
def r52 : List ResultVar := [.tmp 4]
set_option maxRecDepth 1000000 in
set_option maxHeartbeats 4000000 in
theorem fun52 : Fun Try.prog 52 17 2 a52 r52 :=
  ⟨rfl, Try.f52, _, rfl, rfl, rfl, by decide, rfl, rfl, rfl⟩
/-- tumblehome/tumblehomeref08.value -/
noncomputable def a53 : ACode := (.seq (.reg (
    ⟨(some 3), none, (.op (.box (.t 0) 25))⟩ ::
⟨(some 5), none, (.op (.box (.t 2) 28))⟩ ::
⟨(some 6), none, (.op (.alloc [Value.int .i64 0, Value.int .i64 0] 32))⟩ :: [])) (.seq (.reg (
    ⟨(some 13), none, (.op (.loadn 3 (.t 3)))⟩ ::
⟨(some 14), none, (.op (.loadn 2 (.t 5)))⟩ ::
⟨(some 15), none, (.call (.c (Value.func (.func 34) #[] #[])) [(.t 13), (.t 14)])⟩ ::
⟨(some 12), none, (.op (.mv (.t 15)))⟩ ::
⟨(some 16), none, (.op (.extract (.t 12) 0))⟩ ::
⟨(some 17), none, (.op (.extract (.t 12) 1))⟩ ::
⟨(some 7), none, (.op (.mv (.t 16)))⟩ ::
⟨(some 8), none, (.op (.mv (.t 17)))⟩ :: [])) (.seq (.reg (
    ⟨(some 9), none, (.op (.mv (.c (Value.int .i64 0))))⟩ :: [])) (.seq (.seq (.reg (
    ⟨(some 10), none, (.op (.mv (.c (Value.int .i64 0))))⟩ :: [])) (.block 0 (.loop (.seq (.seq (.reg (
    ⟨(some 18), none, (.op (.mv (.t 10)))⟩ ::
⟨(some 19), none, (.op (.mv (.t 7)))⟩ ::
⟨(some 20), none, (.op (.len (.t 19)))⟩ ::
⟨(some 21), none, (.op (.int .lss (.t 18) (.t 20)))⟩ :: [])) (.cond (.t 21) .skip (.exit 0))) (.seq (.block 1 (.seq (.reg (
    ⟨(some 11), none, (.op (.mv (.c (Value.int .i64 0))))⟩ :: [])) (.block 2 (.loop (.seq (.seq (.reg (
    ⟨(some 24), none, (.op (.mv (.t 11)))⟩ ::
⟨(some 25), none, (.op (.mv (.t 7)))⟩ ::
⟨(some 26), none, (.op (.mv (.t 10)))⟩ ::
⟨(some 27), none, (.op (.ixsl 1 (.t 25) (.t 26)))⟩ ::
⟨(some 28), none, (.op (.load1 (.t 27)))⟩ ::
⟨(some 29), none, (.op (.len (.t 28)))⟩ ::
⟨(some 30), none, (.op (.int .lss (.t 24) (.t 29)))⟩ :: [])) (.cond (.t 30) .skip (.exit 2))) (.seq (.block 3 (.dreg (
    ⟨(some 33), none, (.op (.mv (.t 9)))⟩ ::
⟨(some 34), none, (.op (.mv (.t 7)))⟩ ::
⟨(some 35), none, (.op (.mv (.t 10)))⟩ ::
⟨(some 36), none, (.op (.ixsl 1 (.t 34) (.t 35)))⟩ ::
⟨(some 37), none, (.op (.load1 (.t 36)))⟩ ::
⟨(some 38), none, (.op (.mv (.t 11)))⟩ ::
⟨(some 39), none, (.op (.ixsl 1 (.t 37) (.t 38)))⟩ ::
⟨(some 40), none, (.op (.load1 (.t 39)))⟩ ::
⟨(some 41), none, (.op (.mv (.t 1)))⟩ ::
⟨(some 42), none, (.op (.mv (.t 10)))⟩ ::
⟨(some 43), none, (.op (.ixsl 1 (.t 41) (.t 42)))⟩ ::
⟨(some 44), none, (.op (.load1 (.t 43)))⟩ ::
⟨(some 45), none, (.op (.mv (.t 11)))⟩ ::
⟨(some 46), none, (.op (.ixsl 1 (.t 44) (.t 45)))⟩ ::
⟨(some 47), none, (.op (.load1 (.t 46)))⟩ ::
⟨(some 48), none, (.op (.int .mul (.t 40) (.t 47)))⟩ ::
⟨(some 49), none, (.op (.int .add (.t 33) (.t 48)))⟩ ::
⟨(some 9), none, (.op (.mv (.t 49)))⟩ :: []) [])) (.reg (
    ⟨(some 31), none, (.op (.mv (.t 11)))⟩ ::
⟨(some 32), none, (.op (.int .add (.t 31) (.c (Value.int .i64 1))))⟩ ::
⟨(some 11), none, (.op (.mv (.t 32)))⟩ :: [])))))))) (.reg (
    ⟨(some 22), none, (.op (.mv (.t 10)))⟩ ::
⟨(some 23), none, (.op (.int .add (.t 22) (.c (Value.int .i64 1))))⟩ ::
⟨(some 10), none, (.op (.mv (.t 23)))⟩ :: []))))))) (.seq (.reg (
    ⟨(some 50), none, (.op (.mv (.t 9)))⟩ ::
⟨(some 51), none, (.op (.mv (.t 8)))⟩ ::
⟨(some 52), none, (.call (.c (Value.func (.func 36) #[] #[])) [(.t 50), (.t 51)])⟩ ::
⟨none, none, (.op (.store 2 (.t 6) (.t 52)))⟩ :: [])) .ret)))))
def r53 : List ResultVar := [.cell 6 32]
set_option maxRecDepth 1000000 in
set_option maxHeartbeats 4000000 in
theorem fun53 : Fun Try.prog 53 53 3 a53 r53 :=
  ⟨rfl, Try.f53, _, rfl, rfl, rfl, by decide, rfl, rfl, rfl⟩
/-- tumblehome/chart.newSheet -/
noncomputable def a54 : ACode := (.seq (.reg (
    ⟨(some 2), none, (.op (.box (.t 0) 25))⟩ ::
⟨(some 4), none, (.op (.alloc [Value.slice none 0 0, Value.slice none 0 0, Value.slice none 0 0] 84))⟩ ::
⟨(some 5), none, (.op (.mv (.c (Value.int .i64 0))))⟩ :: [])) (.seq (.reg (
    ⟨(some 8), none, (.op (.loadn 3 (.t 2)))⟩ ::
⟨(some 9), none, (.op (.build [Value.slice none 0 0, Value.slice none 0 0, Value.slice none 0 0] [(0, 3, (.t 8))]))⟩ ::
⟨(some 6), none, (.op (.alloc [Value.slice none 0 0, Value.slice none 0 0, Value.slice none 0 0] 84))⟩ ::
⟨none, none, (.op (.store 3 (.t 6) (.t 9)))⟩ :: [])) (.seq (.seq (.reg (
    ⟨(some 10), none, (.op (.loadn 3 (.t 2)))⟩ ::
⟨(some 11), none, (.call (.c (Value.func (.func 19) #[] #[])) [(.t 10)])⟩ ::
⟨(some 7), none, (.op (.mv (.t 11)))⟩ :: [])) (.seq (.reg (
    ⟨(some 12), none, (.op (.mv (.t 7)))⟩ ::
⟨(some 13), none, (.op (.int .neq (.t 12) (.c (Value.int .i64 0))))⟩ :: [])) (.cond (.t 13) (.seq (.reg (
    ⟨(some 14), none, (.op (.loadn 3 (.t 6)))⟩ ::
⟨(some 15), none, (.op (.mv (.t 7)))⟩ ::
⟨none, none, (.op (.store 3 (.t 4) (.t 14)))⟩ ::
⟨(some 5), none, (.op (.mv (.t 15)))⟩ :: [])) .ret) .skip))) (.seq (.seq (.reg (
    ⟨(some 16), none, (.op (.loadn 3 (.t 6)))⟩ ::
⟨(some 17), none, (.op (.mv (.t 1)))⟩ ::
⟨(some 18), none, (.call (.c (Value.func (.func 49) #[] #[])) [(.t 16), (.t 17)])⟩ ::
⟨(some 19), none, (.op (.not (.t 18)))⟩ :: [])) (.cond (.t 19) (.seq (.reg (
    ⟨(some 20), none, (.op (.loadn 3 (.t 6)))⟩ ::
⟨none, none, (.op (.store 3 (.t 4) (.t 20)))⟩ ::
⟨(some 5), none, (.op (.mv (.c (Value.int .i64 19))))⟩ :: [])) .ret) .skip)) (.seq (.reg (
    ⟨(some 21), none, (.op (.loadn 3 (.t 6)))⟩ ::
⟨none, none, (.op (.store 3 (.t 4) (.t 21)))⟩ ::
⟨(some 5), none, (.op (.mv (.c (Value.int .i64 0))))⟩ :: [])) .ret)))))
def r54 : List ResultVar := [.cell 4 84, .tmp 5]
set_option maxRecDepth 1000000 in
set_option maxHeartbeats 4000000 in
theorem fun54 : Fun Try.prog 54 22 2 a54 r54 :=
  ⟨rfl, Try.f54, _, rfl, rfl, rfl, by decide, rfl, rfl, rfl⟩
/-- (tumblehome/chart.sheet).lo -/
noncomputable def a55 : ACode := (.seq (.reg (
    ⟨(some 2), none, (.op (.box (.t 0) 84))⟩ ::
⟨(some 3), none, (.op (.box (.t 1) 88))⟩ ::
⟨(some 4), none, (.op (.mv (.c (Value.int .i64 0))))⟩ :: [])) (.seq (.dreg (
    ⟨(some 5), none, (.op (.faddr 0 (.t 2)))⟩ ::
⟨(some 6), none, (.op (.faddr 2 (.t 5)))⟩ ::
⟨(some 7), none, (.op (.load1 (.t 6)))⟩ ::
⟨(some 8), none, (.op (.faddr 0 (.t 3)))⟩ ::
⟨(some 9), none, (.op (.load1 (.t 8)))⟩ ::
⟨(some 10), none, (.op (.ixsl 1 (.t 7) (.t 9)))⟩ ::
⟨(some 11), none, (.op (.load1 (.t 10)))⟩ ::
⟨(some 12), none, (.op (.faddr 1 (.t 3)))⟩ ::
⟨(some 13), none, (.op (.load1 (.t 12)))⟩ ::
⟨(some 14), none, (.op (.ixsl 2 (.t 11) (.t 13)))⟩ ::
⟨(some 15), none, (.op (.faddr 0 (.t 14)))⟩ ::
⟨(some 16), none, (.op (.load1 (.t 15)))⟩ ::
⟨(some 4), none, (.op (.mv (.t 16)))⟩ :: []) []) .ret))
def r55 : List ResultVar := [.tmp 4]
set_option maxRecDepth 1000000 in
set_option maxHeartbeats 4000000 in
theorem fun55 : Fun Try.prog 55 17 2 a55 r55 :=
  ⟨rfl, Try.f55, _, rfl, rfl, rfl, by decide, rfl, rfl, rfl⟩
/-- (tumblehome/chart.sheet).hi -/
noncomputable def a56 : ACode := (.seq (.reg (
    ⟨(some 2), none, (.op (.box (.t 0) 84))⟩ ::
⟨(some 3), none, (.op (.box (.t 1) 88))⟩ ::
⟨(some 4), none, (.op (.mv (.c (Value.int .i64 0))))⟩ :: [])) (.seq (.dreg (
    ⟨(some 5), none, (.op (.faddr 0 (.t 2)))⟩ ::
⟨(some 6), none, (.op (.faddr 2 (.t 5)))⟩ ::
⟨(some 7), none, (.op (.load1 (.t 6)))⟩ ::
⟨(some 8), none, (.op (.faddr 0 (.t 3)))⟩ ::
⟨(some 9), none, (.op (.load1 (.t 8)))⟩ ::
⟨(some 10), none, (.op (.ixsl 1 (.t 7) (.t 9)))⟩ ::
⟨(some 11), none, (.op (.load1 (.t 10)))⟩ ::
⟨(some 12), none, (.op (.faddr 1 (.t 3)))⟩ ::
⟨(some 13), none, (.op (.load1 (.t 12)))⟩ ::
⟨(some 14), none, (.op (.ixsl 2 (.t 11) (.t 13)))⟩ ::
⟨(some 15), none, (.op (.faddr 1 (.t 14)))⟩ ::
⟨(some 16), none, (.op (.load1 (.t 15)))⟩ ::
⟨(some 4), none, (.op (.mv (.t 16)))⟩ :: []) []) .ret))
def r56 : List ResultVar := [.tmp 4]
set_option maxRecDepth 1000000 in
set_option maxHeartbeats 4000000 in
theorem fun56 : Fun Try.prog 56 17 2 a56 r56 :=
  ⟨rfl, Try.f56, _, rfl, rfl, rfl, by decide, rfl, rfl, rfl⟩
/-- slices.ContainsFunc[[][]tumblehome/api.Range,[]tumblehome/api.Range] -/
noncomputable def a58 : ACode := (.seq (.reg (
    ⟨(some 4), none, (.op (.mv (.c (Value.bool false))))⟩ :: [])) (.seq (.reg (
    ⟨(some 5), none, (.op (.mv (.t 0)))⟩ ::
⟨(some 6), none, (.op (.mv (.t 1)))⟩ ::
⟨(some 7), none, (.call (.c (Value.func (.func 92) #[] #[])) [(.t 5), (.t 6)])⟩ ::
⟨(some 8), none, (.op (.int .geq (.t 7) (.c (Value.int .i64 0))))⟩ ::
⟨(some 4), none, (.op (.mv (.t 8)))⟩ :: [])) .ret))
def r58 : List ResultVar := [.tmp 4]
set_option maxRecDepth 1000000 in
set_option maxHeartbeats 4000000 in
theorem fun58 : Fun Try.prog 58 9 2 a58 r58 :=
  ⟨rfl, Try.f58, _, rfl, rfl, rfl, by decide, rfl, rfl, rfl⟩
/-- tumblehome/chart.CheckChart$1 -/
noncomputable def a59 : ACode := (.seq (.reg (
    ⟨(some 3), none, (.op (.mv (.c (Value.bool false))))⟩ :: [])) (.seq (.reg (
    ⟨(some 4), none, (.op (.mv (.t 0)))⟩ ::
⟨(some 5), none, (.op (.len (.t 4)))⟩ ::
⟨(some 6), none, (.op (.faddr 1 (.t 1)))⟩ ::
⟨(some 7), none, (.op (.load1 (.t 6)))⟩ ::
⟨(some 8), none, (.op (.len (.t 7)))⟩ ::
⟨(some 9), none, (.op (.int .neq (.t 5) (.t 8)))⟩ ::
⟨(some 3), none, (.op (.mv (.t 9)))⟩ :: [])) .ret))
def r59 : List ResultVar := [.tmp 3]
set_option maxRecDepth 1000000 in
set_option maxHeartbeats 4000000 in
theorem fun59 : Fun Try.prog 59 10 2 a59 r59 :=
  ⟨rfl, Try.f59, _, rfl, rfl, rfl, by decide, rfl, rfl, rfl⟩
/-- tumblehome/chart.rising -/
noncomputable def a60 : ACode := (.seq (.reg (
    ⟨(some 2), none, (.op (.mv (.c (Value.bool false))))⟩ :: [])) (.seq (.seq (.reg (
    ⟨(some 5), none, (.op (.mv (.t 0)))⟩ ::
⟨(some 6), none, (.op (.len (.t 5)))⟩ ::
⟨(some 7), none, (.op (.mv (.c (Value.int .i64 0))))⟩ :: [])) (.block 0 (.loop (.seq (.reg (
    ⟨(some 8), none, (.op (.int .lss (.t 7) (.t 6)))⟩ :: [])) (.seq (.cond (.t 8) .skip (.exit 0)) (.seq (.block 1 (.seq (.reg (
    ⟨(some 9), none, (.op (.mv (.t 7)))⟩ ::
⟨(some 10), none, (.op (.ixsl 1 (.t 5) (.t 7)))⟩ ::
⟨(some 11), none, (.op (.load1 (.t 10)))⟩ ::
⟨(some 3), none, (.op (.mv (.t 9)))⟩ ::
⟨(some 4), none, (.op (.mv (.t 11)))⟩ :: [])) (.seq (.reg (
    ⟨(some 12), none, (.op (.mv (.t 3)))⟩ ::
⟨(some 13), none, (.op (.int .gtr (.t 12) (.c (Value.int .i64 0))))⟩ ::
⟨(some 14), none, (.op (.mv (.t 13)))⟩ ::
⟨(some 15), (some (14, true)), (.op (.mv (.t 4)))⟩ ::
⟨(some 16), (some (14, true)), (.op (.mv (.t 0)))⟩ ::
⟨(some 17), (some (14, true)), (.op (.mv (.t 3)))⟩ ::
⟨(some 18), (some (14, true)), (.op (.int .sub (.t 17) (.c (Value.int .i64 1))))⟩ ::
⟨(some 19), (some (14, true)), (.op (.ixsl 1 (.t 16) (.t 18)))⟩ ::
⟨(some 20), (some (14, true)), (.op (.load1 (.t 19)))⟩ ::
⟨(some 21), (some (14, true)), (.op (.int .leq (.t 15) (.t 20)))⟩ ::
⟨(some 22), none, (.op (.pick (.t 14) (.t 21) (.c (Value.bool false))))⟩ :: [])) (.cond (.t 22) (.seq (.reg (
    ⟨(some 2), none, (.op (.mv (.c (Value.bool false))))⟩ :: [])) .ret) .skip)))) (.reg (
    ⟨(some 23), none, (.op (.int .add (.t 7) (.c (Value.int .i64 1))))⟩ ::
⟨(some 7), none, (.op (.mv (.t 23)))⟩ :: [])))))))) (.seq (.reg (
    ⟨(some 24), none, (.op (.mv (.t 0)))⟩ ::
⟨(some 25), none, (.call (.c (Value.func (.func 61) #[] #[])) [(.c (Value.int .i64 2000)), (.t 24)])⟩ ::
⟨(some 2), none, (.op (.mv (.t 25)))⟩ :: [])) .ret)))
def r60 : List ResultVar := [.tmp 2]
set_option maxRecDepth 1000000 in
set_option maxHeartbeats 4000000 in
theorem fun60 : Fun Try.prog 60 26 1 a60 r60 :=
  ⟨rfl, Try.f60, _, rfl, rfl, rfl, by decide, rfl, rfl, rfl⟩
/-- tumblehome/chart.within -/
noncomputable def a61 : ACode := (.seq (.reg (
    ⟨(some 2), none, (.op (.box (.t 0) 2))⟩ ::
⟨(some 4), none, (.op (.mv (.c (Value.bool false))))⟩ :: [])) (.seq (.reg (
    ⟨(some 5), none, (.op (.mv (.t 1)))⟩ ::
⟨(some 6), none, (.op (.mkfn (Fn.func 94) [] [(.t 2)]))⟩ ::
⟨(some 7), none, (.call (.c (Value.func (.func 93) #[] #[])) [(.t 5), (.t 6)])⟩ ::
⟨(some 8), none, (.op (.not (.t 7)))⟩ ::
⟨(some 4), none, (.op (.mv (.t 8)))⟩ :: [])) .ret))
def r61 : List ResultVar := [.tmp 4]
set_option maxRecDepth 1000000 in
set_option maxHeartbeats 4000000 in
theorem fun61 : Fun Try.prog 61 9 2 a61 r61 :=
  ⟨rfl, Try.f61, _, rfl, rfl, rfl, by decide, rfl, rfl, rfl⟩
/-- tumblehome/tumblehomeref08.rising -/
noncomputable def a62 : ACode := (.seq (.reg (
    ⟨(some 2), none, (.op (.mv (.c (Value.bool false))))⟩ :: [])) (.seq (.seq (.reg (
    ⟨(some 3), none, (.op (.mv (.c (Value.int .i64 0))))⟩ :: [])) (.block 0 (.loop (.seq (.seq (.reg (
    ⟨(some 4), none, (.op (.mv (.t 3)))⟩ ::
⟨(some 5), none, (.op (.mv (.t 0)))⟩ ::
⟨(some 6), none, (.op (.len (.t 5)))⟩ ::
⟨(some 7), none, (.op (.int .lss (.t 4) (.t 6)))⟩ :: [])) (.cond (.t 7) .skip (.exit 0))) (.seq (.block 1 (.seq (.dreg (
    ⟨(some 10), none, (.op (.mv (.t 0)))⟩ ::
⟨(some 11), none, (.op (.mv (.t 3)))⟩ ::
⟨(some 12), none, (.op (.ixsl 1 (.t 10) (.t 11)))⟩ ::
⟨(some 13), none, (.op (.load1 (.t 12)))⟩ ::
⟨(some 14), none, (.op (.int .lss (.t 13) (.c (Value.int .i64 0))))⟩ ::
⟨(some 15), none, (.op (.mv (.t 14)))⟩ ::
⟨(some 16), (some (15, false)), (.op (.mv (.t 0)))⟩ ::
⟨(some 17), (some (15, false)), (.op (.mv (.t 3)))⟩ ::
⟨(some 18), (some (15, false)), (.op (.ixsl 1 (.t 16) (.t 17)))⟩ ::
⟨(some 19), (some (15, false)), (.op (.load1 (.t 18)))⟩ ::
⟨(some 20), (some (15, false)), (.op (.int .gtr (.t 19) (.c (Value.int .i64 2000))))⟩ ::
⟨(some 21), none, (.op (.pick (.t 15) (.c (Value.bool true)) (.t 20)))⟩ ::
⟨(some 22), none, (.op (.mv (.t 21)))⟩ ::
⟨(some 23), (some (22, false)), (.op (.mv (.t 3)))⟩ ::
⟨(some 24), (some (22, false)), (.op (.int .gtr (.t 23) (.c (Value.int .i64 0))))⟩ ::
⟨(some 25), (some (22, false)), (.op (.mv (.t 24)))⟩ ::
⟨(some 26), (some (25, true)), (.op (.mv (.t 0)))⟩ ::
⟨(some 27), (some (25, true)), (.op (.mv (.t 3)))⟩ ::
⟨(some 28), (some (25, true)), (.op (.ixsl 1 (.t 26) (.t 27)))⟩ ::
⟨(some 29), (some (25, true)), (.op (.load1 (.t 28)))⟩ ::
⟨(some 30), (some (25, true)), (.op (.mv (.t 0)))⟩ ::
⟨(some 31), (some (25, true)), (.op (.mv (.t 3)))⟩ ::
⟨(some 32), (some (25, true)), (.op (.int .sub (.t 31) (.c (Value.int .i64 1))))⟩ ::
⟨(some 33), (some (25, true)), (.op (.ixsl 1 (.t 30) (.t 32)))⟩ ::
⟨(some 34), (some (25, true)), (.op (.load1 (.t 33)))⟩ ::
⟨(some 35), (some (25, true)), (.op (.int .leq (.t 29) (.t 34)))⟩ ::
⟨(some 36), (some (22, false)), (.op (.pick (.t 25) (.t 35) (.c (Value.bool false))))⟩ ::
⟨(some 37), none, (.op (.pick (.t 22) (.c (Value.bool true)) (.t 36)))⟩ :: []) []) (.cond (.t 37) (.seq (.reg (
    ⟨(some 2), none, (.op (.mv (.c (Value.bool false))))⟩ :: [])) .ret) .skip))) (.reg (
    ⟨(some 8), none, (.op (.mv (.t 3)))⟩ ::
⟨(some 9), none, (.op (.int .add (.t 8) (.c (Value.int .i64 1))))⟩ ::
⟨(some 3), none, (.op (.mv (.t 9)))⟩ :: []))))))) (.seq (.reg (
    ⟨(some 2), none, (.op (.mv (.c (Value.bool true))))⟩ :: [])) .ret)))
def r62 : List ResultVar := [.tmp 2]
set_option maxRecDepth 1000000 in
set_option maxHeartbeats 4000000 in
theorem fun62 : Fun Try.prog 62 38 1 a62 r62 :=
  ⟨rfl, Try.f62, _, rfl, rfl, rfl, by decide, rfl, rfl, rfl⟩
/-- (tumblehome/chart.sheet).checkNeed -/
noncomputable def a63 : ACode := (.seq (.reg (
    ⟨(some 3), none, (.op (.box (.t 0) 84))⟩ ::
⟨(some 5), none, (.op (.box (.t 2) 44))⟩ ::
⟨(some 6), none, (.op (.mv (.c (Value.int .i64 0))))⟩ :: [])) (.seq (.seq (.reg (
    ⟨(some 9), none, (.op (.faddr 0 (.t 5)))⟩ ::
⟨(some 10), none, (.op (.load1 (.t 9)))⟩ ::
⟨(some 11), none, (.op (.bslice [Value.int .i64 0] [(0, 1, (.t 10))] 1 2))⟩ ::
⟨(some 12), none, (.call (.c (Value.func (.func 61) #[] #[])) [(.c (Value.int .i64 100000)), (.t 11)])⟩ ::
⟨(some 13), none, (.op (.not (.t 12)))⟩ ::
⟨(some 14), none, (.op (.mv (.t 13)))⟩ ::
⟨(some 15), (some (14, false)), (.op (.faddr 1 (.t 5)))⟩ ::
⟨(some 16), (some (14, false)), (.op (.load1 (.t 15)))⟩ ::
⟨(some 17), (some (14, false)), (.op (.int .sub (.t 16) (.c (Value.int .i64 1))))⟩ ::
⟨(some 18), (some (14, false)), (.op (.bslice [Value.int .i64 0] [(0, 1, (.t 17))] 1 2))⟩ ::
⟨(some 19), (some (14, false)), (.call (.c (Value.func (.func 61) #[] #[])) [(.c (Value.int .i64 999)), (.t 18)])⟩ ::
⟨(some 20), (some (14, false)), (.op (.not (.t 19)))⟩ ::
⟨(some 21), none, (.op (.pick (.t 14) (.c (Value.bool true)) (.t 20)))⟩ :: [])) (.cond (.t 21) (.seq (.reg (
    ⟨(some 6), none, (.op (.mv (.c (Value.int .i64 2))))⟩ :: [])) .ret) .skip)) (.seq (.seq (.reg (
    ⟨(some 23), none, (.op (.faddr 0 (.t 3)))⟩ ::
⟨(some 24), none, (.op (.faddr 0 (.t 23)))⟩ ::
⟨(some 25), none, (.op (.load1 (.t 24)))⟩ ::
⟨(some 26), none, (.op (.mv (.t 1)))⟩ ::
⟨(some 27), none, (.call (.c (Value.func (.func 88) #[] #[])) [(.t 25), (.t 26)])⟩ ::
⟨(some 22), none, (.op (.mv (.t 27)))⟩ ::
⟨(some 28), none, (.op (.extract (.t 22) 0))⟩ ::
⟨(some 29), none, (.op (.extract (.t 22) 1))⟩ ::
⟨(some 7), none, (.op (.mv (.t 28)))⟩ ::
⟨(some 8), none, (.op (.mv (.t 29)))⟩ :: [])) (.seq (.reg (
    ⟨(some 30), none, (.op (.mv (.t 8)))⟩ ::
⟨(some 31), none, (.op (.not (.t 30)))⟩ :: [])) (.cond (.t 31) (.seq (.reg (
    ⟨(some 6), none, (.op (.mv (.c (Value.int .i64 19))))⟩ :: [])) .ret) .skip))) (.seq (.reg (
    ⟨(some 6), none, (.op (.mv (.c (Value.int .i64 0))))⟩ :: [])) .ret))))
def r63 : List ResultVar := [.tmp 6]
set_option maxRecDepth 1000000 in
set_option maxHeartbeats 4000000 in
theorem fun63 : Fun Try.prog 63 32 3 a63 r63 :=
  ⟨rfl, Try.f63, _, rfl, rfl, rfl, by decide, rfl, rfl, rfl⟩
/-- tumblehome/chart.Meet$1 -/
noncomputable def a64 : ACode := (.seq (.reg (
    ⟨(some 2), none, (.op (.mv (.c (Value.bool false))))⟩ :: [])) (.seq (.reg (
    ⟨(some 4), none, (.op (.mv (.t 0)))⟩ ::
⟨(some 5), none, (.op (.len (.t 4)))⟩ ::
⟨(some 6), none, (.op (.mkslice [Value.int .i64 0] 8 2 (.t 5) (.t 5)))⟩ ::
⟨(some 3), none, (.op (.mv (.t 6)))⟩ :: [])) (.seq (.reg (
    ⟨(some 7), none, (.op (.mv (.t 3)))⟩ ::
⟨(some 8), none, (.op (.mv (.t 0)))⟩ ::
⟨(some 9), none, (.op (.copy 1 (.t 7) (.t 8)))⟩ :: [])) (.seq (.reg (
    ⟨(some 10), none, (.op (.mv (.t 3)))⟩ ::
⟨(some 11), none, (.call (.c (Value.func (.func 65) #[] #[])) [(.t 10)])⟩ :: [])) (.seq (.reg (
    ⟨(some 12), none, (.op (.mv (.t 3)))⟩ ::
⟨(some 13), none, (.call (.c (Value.func (.func 66) #[] #[])) [(.t 12)])⟩ ::
⟨(some 14), none, (.op (.not (.t 13)))⟩ ::
⟨(some 2), none, (.op (.mv (.t 14)))⟩ :: [])) .ret)))))
def r64 : List ResultVar := [.tmp 2]
set_option maxRecDepth 1000000 in
set_option maxHeartbeats 4000000 in
theorem fun64 : Fun Try.prog 64 15 1 a64 r64 :=
  ⟨rfl, Try.f64, _, rfl, rfl, rfl, by decide, rfl, rfl, rfl⟩
/-- slices.Reverse[[]int64,int64] -/
noncomputable def a65 : ACode := (.seq (.reg (
    ⟨(some 4), none, (.op (.mv (.t 0)))⟩ ::
⟨(some 5), none, (.op (.len (.t 4)))⟩ ::
⟨(some 6), none, (.op (.int .sub (.t 5) (.c (Value.int .i64 1))))⟩ ::
⟨(some 2), none, (.op (.mv (.c (Value.int .i64 0))))⟩ ::
⟨(some 3), none, (.op (.mv (.t 6)))⟩ :: [])) (.block 0 (.loop (.seq (.seq (.reg (
    ⟨(some 7), none, (.op (.mv (.t 2)))⟩ ::
⟨(some 8), none, (.op (.mv (.t 3)))⟩ ::
⟨(some 9), none, (.op (.int .lss (.t 7) (.t 8)))⟩ :: [])) (.cond (.t 9) .skip (.exit 0))) (.seq (.block 1 (.dreg (
    ⟨(some 14), none, (.op (.mv (.t 0)))⟩ ::
⟨(some 15), none, (.op (.mv (.t 2)))⟩ ::
⟨(some 16), none, (.op (.mv (.t 0)))⟩ ::
⟨(some 17), none, (.op (.mv (.t 3)))⟩ ::
⟨(some 18), none, (.op (.mv (.t 0)))⟩ ::
⟨(some 19), none, (.op (.mv (.t 3)))⟩ ::
⟨(some 20), none, (.op (.ixsl 1 (.t 18) (.t 19)))⟩ ::
⟨(some 21), none, (.op (.load1 (.t 20)))⟩ ::
⟨(some 22), none, (.op (.mv (.t 0)))⟩ ::
⟨(some 23), none, (.op (.mv (.t 2)))⟩ ::
⟨(some 24), none, (.op (.ixsl 1 (.t 22) (.t 23)))⟩ ::
⟨(some 25), none, (.op (.load1 (.t 24)))⟩ ::
⟨(some 26), none, (.op (.ixsl 1 (.t 14) (.t 15)))⟩ ::
⟨none, none, (.op (.store 1 (.t 26) (.t 21)))⟩ ::
⟨(some 27), none, (.op (.ixsl 1 (.t 16) (.t 17)))⟩ ::
⟨none, none, (.op (.store 1 (.t 27) (.t 25)))⟩ :: []) [])) (.reg (
    ⟨(some 10), none, (.op (.mv (.t 2)))⟩ ::
⟨(some 11), none, (.op (.int .add (.t 10) (.c (Value.int .i64 1))))⟩ ::
⟨(some 12), none, (.op (.mv (.t 3)))⟩ ::
⟨(some 13), none, (.op (.int .sub (.t 12) (.c (Value.int .i64 1))))⟩ ::
⟨(some 2), none, (.op (.mv (.t 11)))⟩ ::
⟨(some 3), none, (.op (.mv (.t 13)))⟩ :: [])))))))
def r65 : List ResultVar := []
set_option maxRecDepth 1000000 in
set_option maxHeartbeats 4000000 in
theorem fun65 : Fun Try.prog 65 28 1 a65 r65 :=
  ⟨rfl, Try.f65, _, rfl, rfl, rfl, by decide, rfl, rfl, rfl⟩
/-- slices.IsSorted[[]int64,int64] -/
noncomputable def a66 : ACode := (.seq (.reg (
    ⟨(some 2), none, (.op (.mv (.c (Value.bool false))))⟩ :: [])) (.seq (.seq (.reg (
    ⟨(some 4), none, (.op (.mv (.t 0)))⟩ ::
⟨(some 5), none, (.op (.len (.t 4)))⟩ ::
⟨(some 6), none, (.op (.int .sub (.t 5) (.c (Value.int .i64 1))))⟩ ::
⟨(some 3), none, (.op (.mv (.t 6)))⟩ :: [])) (.block 0 (.loop (.seq (.seq (.reg (
    ⟨(some 7), none, (.op (.mv (.t 3)))⟩ ::
⟨(some 8), none, (.op (.int .gtr (.t 7) (.c (Value.int .i64 0))))⟩ :: [])) (.cond (.t 8) .skip (.exit 0))) (.seq (.block 1 (.seq (.dreg (
    ⟨(some 11), none, (.op (.mv (.t 0)))⟩ ::
⟨(some 12), none, (.op (.mv (.t 3)))⟩ ::
⟨(some 13), none, (.op (.ixsl 1 (.t 11) (.t 12)))⟩ ::
⟨(some 14), none, (.op (.load1 (.t 13)))⟩ ::
⟨(some 15), none, (.op (.mv (.t 0)))⟩ ::
⟨(some 16), none, (.op (.mv (.t 3)))⟩ ::
⟨(some 17), none, (.op (.int .sub (.t 16) (.c (Value.int .i64 1))))⟩ ::
⟨(some 18), none, (.op (.ixsl 1 (.t 15) (.t 17)))⟩ ::
⟨(some 19), none, (.op (.load1 (.t 18)))⟩ ::
⟨(some 20), none, (.call (.c (Value.func (.func 95) #[] #[])) [(.t 14), (.t 19)])⟩ :: []) []) (.cond (.t 20) (.seq (.reg (
    ⟨(some 2), none, (.op (.mv (.c (Value.bool false))))⟩ :: [])) .ret) .skip))) (.reg (
    ⟨(some 9), none, (.op (.mv (.t 3)))⟩ ::
⟨(some 10), none, (.op (.int .sub (.t 9) (.c (Value.int .i64 1))))⟩ ::
⟨(some 3), none, (.op (.mv (.t 10)))⟩ :: []))))))) (.seq (.reg (
    ⟨(some 2), none, (.op (.mv (.c (Value.bool true))))⟩ :: [])) .ret)))
def r66 : List ResultVar := [.tmp 2]
set_option maxRecDepth 1000000 in
set_option maxHeartbeats 4000000 in
theorem fun66 : Fun Try.prog 66 21 1 a66 r66 :=
  ⟨rfl, Try.f66, _, rfl, rfl, rfl, by decide, rfl, rfl, rfl⟩
/-- slices.ContainsFunc[[][]int64,[]int64] -/
noncomputable def a67 : ACode := (.seq (.reg (
    ⟨(some 4), none, (.op (.mv (.c (Value.bool false))))⟩ :: [])) (.seq (.reg (
    ⟨(some 5), none, (.op (.mv (.t 0)))⟩ ::
⟨(some 6), none, (.op (.mv (.t 1)))⟩ ::
⟨(some 7), none, (.call (.c (Value.func (.func 96) #[] #[])) [(.t 5), (.t 6)])⟩ ::
⟨(some 8), none, (.op (.int .geq (.t 7) (.c (Value.int .i64 0))))⟩ ::
⟨(some 4), none, (.op (.mv (.t 8)))⟩ :: [])) .ret))
def r67 : List ResultVar := [.tmp 4]
set_option maxRecDepth 1000000 in
set_option maxHeartbeats 4000000 in
theorem fun67 : Fun Try.prog 67 9 2 a67 r67 :=
  ⟨rfl, Try.f67, _, rfl, rfl, rfl, by decide, rfl, rfl, rfl⟩
/-- (tumblehome/chart.sheet).meet -/
noncomputable def a68 : ACode := (.seq (.reg (
    ⟨(some 4), none, (.op (.box (.t 0) 84))⟩ ::
⟨(some 7), none, (.op (.box (.t 3) 44))⟩ ::
⟨(some 8), none, (.op (.alloc [Value.int .i64 0, Value.int .i64 0] 32))⟩ ::
⟨(some 9), none, (.op (.mv (.c (Value.bool false))))⟩ :: [])) (.seq (.reg (
    ⟨(some 24), none, (.op (.faddr 0 (.t 4)))⟩ ::
⟨(some 25), none, (.op (.faddr 0 (.t 24)))⟩ ::
⟨(some 26), none, (.op (.load1 (.t 25)))⟩ ::
⟨(some 27), none, (.op (.mv (.t 2)))⟩ ::
⟨(some 28), none, (.call (.c (Value.func (.func 88) #[] #[])) [(.t 26), (.t 27)])⟩ ::
⟨(some 23), none, (.op (.mv (.t 28)))⟩ ::
⟨(some 29), none, (.op (.extract (.t 23) 0))⟩ ::
⟨(some 30), none, (.op (.extract (.t 23) 1))⟩ ::
⟨(some 10), none, (.op (.mv (.t 29)))⟩ ::
⟨(some 11), none, (.op (.mv (.t 30)))⟩ :: [])) (.seq (.dreg (
    ⟨(some 31), none, (.op (.faddr 0 (.t 4)))⟩ ::
⟨(some 32), none, (.op (.faddr 0 (.t 31)))⟩ ::
⟨(some 33), none, (.op (.load1 (.t 32)))⟩ ::
⟨(some 34), none, (.op (.mv (.t 10)))⟩ ::
⟨(some 35), none, (.op (.int .add (.t 34) (.c (Value.int .i64 1))))⟩ ::
⟨(some 36), none, (.op (.ixsl 1 (.t 33) (.t 35)))⟩ ::
⟨(some 37), none, (.op (.load1 (.t 36)))⟩ ::
⟨(some 38), none, (.op (.mv (.t 2)))⟩ ::
⟨(some 39), none, (.op (.int .sub (.t 37) (.t 38)))⟩ ::
⟨(some 40), none, (.op (.mv (.t 2)))⟩ ::
⟨(some 41), none, (.op (.faddr 0 (.t 4)))⟩ ::
⟨(some 42), none, (.op (.faddr 0 (.t 41)))⟩ ::
⟨(some 43), none, (.op (.load1 (.t 42)))⟩ ::
⟨(some 44), none, (.op (.mv (.t 10)))⟩ ::
⟨(some 45), none, (.op (.ixsl 1 (.t 43) (.t 44)))⟩ ::
⟨(some 46), none, (.op (.load1 (.t 45)))⟩ ::
⟨(some 47), none, (.op (.int .sub (.t 40) (.t 46)))⟩ ::
⟨(some 12), none, (.op (.mv (.t 39)))⟩ ::
⟨(some 13), none, (.op (.mv (.t 47)))⟩ :: []) []) (.seq (.reg (
    ⟨(some 48), none, (.op (.mv (.t 12)))⟩ ::
⟨(some 49), none, (.op (.mv (.t 13)))⟩ ::
⟨(some 50), none, (.op (.int .add (.t 48) (.t 49)))⟩ ::
⟨(some 14), none, (.op (.mv (.t 50)))⟩ :: [])) (.seq (.reg (
    ⟨(some 51), none, (.op (.faddr 0 (.t 4)))⟩ ::
⟨(some 52), none, (.op (.faddr 1 (.t 51)))⟩ ::
⟨(some 53), none, (.op (.load1 (.t 52)))⟩ ::
⟨(some 54), none, (.op (.len (.t 53)))⟩ ::
⟨(some 55), none, (.op (.mkslice [Value.int .i64 0] 8 2 (.t 54) (.t 54)))⟩ ::
⟨(some 15), none, (.op (.mv (.t 55)))⟩ :: [])) (.seq (.seq (.reg (
    ⟨(some 56), none, (.op (.faddr 0 (.t 4)))⟩ ::
⟨(some 57), none, (.op (.faddr 1 (.t 56)))⟩ ::
⟨(some 58), none, (.op (.load1 (.t 57)))⟩ ::
⟨(some 59), none, (.op (.len (.t 58)))⟩ ::
⟨(some 60), none, (.op (.mv (.c (Value.int .i64 0))))⟩ :: [])) (.block 0 (.loop (.seq (.reg (
    ⟨(some 61), none, (.op (.int .lss (.t 60) (.t 59)))⟩ :: [])) (.seq (.cond (.t 61) .skip (.exit 0)) (.seq (.block 1 (.seq (.reg (
    ⟨(some 62), none, (.op (.mv (.t 60)))⟩ ::
⟨(some 63), none, (.op (.ixsl 1 (.t 58) (.t 60)))⟩ ::
⟨(some 64), none, (.op (.load1 (.t 63)))⟩ ::
⟨(some 16), none, (.op (.mv (.t 62)))⟩ ::
⟨(some 17), none, (.op (.mv (.t 64)))⟩ :: [])) (.dreg (
    ⟨(some 65), none, (.op (.mv (.t 15)))⟩ ::
⟨(some 66), none, (.op (.mv (.t 16)))⟩ ::
⟨(some 67), none, (.op (.mv (.t 12)))⟩ ::
⟨(some 68), none, (.op (.mv (.t 1)))⟩ ::
⟨(some 69), none, (.op (.mv (.t 10)))⟩ ::
⟨(some 70), none, (.op (.ixsl 1 (.t 68) (.t 69)))⟩ ::
⟨(some 71), none, (.op (.load1 (.t 70)))⟩ ::
⟨(some 72), none, (.op (.mv (.t 16)))⟩ ::
⟨(some 73), none, (.op (.ixsl 1 (.t 71) (.t 72)))⟩ ::
⟨(some 74), none, (.op (.load1 (.t 73)))⟩ ::
⟨(some 75), none, (.op (.int .mul (.t 67) (.t 74)))⟩ ::
⟨(some 76), none, (.op (.mv (.t 13)))⟩ ::
⟨(some 77), none, (.op (.mv (.t 1)))⟩ ::
⟨(some 78), none, (.op (.mv (.t 10)))⟩ ::
⟨(some 79), none, (.op (.int .add (.t 78) (.c (Value.int .i64 1))))⟩ ::
⟨(some 80), none, (.op (.ixsl 1 (.t 77) (.t 79)))⟩ ::
⟨(some 81), none, (.op (.load1 (.t 80)))⟩ ::
⟨(some 82), none, (.op (.mv (.t 16)))⟩ ::
⟨(some 83), none, (.op (.ixsl 1 (.t 81) (.t 82)))⟩ ::
⟨(some 84), none, (.op (.load1 (.t 83)))⟩ ::
⟨(some 85), none, (.op (.int .mul (.t 76) (.t 84)))⟩ ::
⟨(some 86), none, (.op (.int .add (.t 75) (.t 85)))⟩ ::
⟨(some 87), none, (.op (.mv (.t 14)))⟩ ::
⟨(some 88), none, (.op (.faddr 0 (.t 7)))⟩ ::
⟨(some 89), none, (.op (.load1 (.t 88)))⟩ ::
⟨(some 90), none, (.op (.faddr 1 (.t 7)))⟩ ::
⟨(some 91), none, (.op (.load1 (.t 90)))⟩ ::
⟨(some 92), none, (.op (.mv (.t 17)))⟩ ::
⟨(some 93), none, (.op (.int .mul (.t 91) (.t 92)))⟩ ::
⟨(some 94), none, (.op (.int .add (.t 89) (.t 93)))⟩ ::
⟨(some 95), none, (.op (.int .mul (.t 87) (.t 94)))⟩ ::
⟨(some 96), none, (.op (.int .sub (.t 86) (.t 95)))⟩ ::
⟨(some 97), none, (.op (.ixsl 1 (.t 65) (.t 66)))⟩ ::
⟨none, none, (.op (.store 1 (.t 97) (.t 96)))⟩ :: []) []))) (.reg (
    ⟨(some 98), none, (.op (.int .add (.t 60) (.c (Value.int .i64 1))))⟩ ::
⟨(some 60), none, (.op (.mv (.t 98)))⟩ :: [])))))))) (.seq (.reg (
    ⟨(some 18), none, (.op (.mv (.c (Value.int .i64 (-1)))))⟩ :: [])) (.seq .skip (.seq (.seq (.reg (
    ⟨(some 99), none, (.op (.mv (.t 15)))⟩ ::
⟨(some 100), none, (.op (.len (.t 99)))⟩ ::
⟨(some 101), none, (.op (.mv (.c (Value.int .i64 0))))⟩ :: [])) (.block 2 (.loop (.seq (.reg (
    ⟨(some 102), none, (.op (.int .lss (.t 101) (.t 100)))⟩ :: [])) (.seq (.cond (.t 102) .skip (.exit 2)) (.seq (.block 3 (.seq (.reg (
    ⟨(some 103), none, (.op (.mv (.t 101)))⟩ ::
⟨(some 19), none, (.op (.mv (.t 103)))⟩ :: [])) (.block 4 (.seq (.reg (
    ⟨(some 105), none, (.op (.mv (.t 15)))⟩ ::
⟨(some 106), none, (.op (.mv (.t 19)))⟩ ::
⟨(some 107), none, (.op (.ixsl 1 (.t 105) (.t 106)))⟩ ::
⟨(some 108), none, (.op (.load1 (.t 107)))⟩ ::
⟨(some 109), none, (.op (.int .gtr (.t 108) (.c (Value.int .i64 0))))⟩ ::
⟨(some 104), none, (.op (.mv (.t 109)))⟩ :: [])) (.cond (.t 104) (.reg (
    ⟨(some 110), none, (.op (.mv (.t 19)))⟩ ::
⟨(some 18), none, (.op (.mv (.t 110)))⟩ :: [])) (.seq (.reg (
    ⟨(some 112), none, (.op (.mv (.t 15)))⟩ ::
⟨(some 113), none, (.op (.mv (.t 19)))⟩ ::
⟨(some 114), none, (.op (.ixsl 1 (.t 112) (.t 113)))⟩ ::
⟨(some 115), none, (.op (.load1 (.t 114)))⟩ ::
⟨(some 116), none, (.op (.int .eql (.t 115) (.c (Value.int .i64 0))))⟩ ::
⟨(some 111), none, (.op (.mv (.t 116)))⟩ :: [])) (.cond (.t 111) (.seq (.reg (
    ⟨(some 117), none, (.op (.faddr 0 (.t 4)))⟩ ::
⟨(some 118), none, (.op (.faddr 1 (.t 117)))⟩ ::
⟨(some 119), none, (.op (.load1 (.t 118)))⟩ ::
⟨(some 120), none, (.op (.mv (.t 19)))⟩ ::
⟨(some 121), none, (.op (.ixsl 1 (.t 119) (.t 120)))⟩ ::
⟨(some 122), none, (.op (.load1 (.t 121)))⟩ ::
⟨(some 123), none, (.op (.build [Value.int .i64 0, Value.int .i64 0] [(0, 1, (.t 122)), (1, 1, (.c (Value.int .i64 1)))]))⟩ ::
⟨none, none, (.op (.store 2 (.t 8) (.t 123)))⟩ ::
⟨(some 9), none, (.op (.mv (.c (Value.bool true))))⟩ :: [])) .ret) (.exit 2)))))))) (.reg (
    ⟨(some 124), none, (.op (.int .add (.t 101) (.c (Value.int .i64 1))))⟩ ::
⟨(some 101), none, (.op (.mv (.t 124)))⟩ :: [])))))))) (.seq (.seq (.reg (
    ⟨(some 125), none, (.op (.mv (.t 18)))⟩ ::
⟨(some 126), none, (.op (.int .lss (.t 125) (.c (Value.int .i64 0))))⟩ ::
⟨(some 127), none, (.op (.mv (.t 126)))⟩ ::
⟨(some 128), (some (127, false)), (.op (.mv (.t 18)))⟩ ::
⟨(some 129), (some (127, false)), (.op (.mv (.t 15)))⟩ ::
⟨(some 130), (some (127, false)), (.op (.len (.t 129)))⟩ ::
⟨(some 131), (some (127, false)), (.op (.int .sub (.t 130) (.c (Value.int .i64 1))))⟩ ::
⟨(some 132), (some (127, false)), (.op (.int .eql (.t 128) (.t 131)))⟩ ::
⟨(some 133), none, (.op (.pick (.t 127) (.c (Value.bool true)) (.t 132)))⟩ :: [])) (.cond (.t 133) (.seq (.reg (
    ⟨(some 134), none, (.op (.build [Value.int .i64 0, Value.int .i64 0] []))⟩ ::
⟨none, none, (.op (.store 2 (.t 8) (.t 134)))⟩ ::
⟨(some 9), none, (.op (.mv (.c (Value.bool false))))⟩ :: [])) .ret) .skip)) (.seq (.dreg (
    ⟨(some 135), none, (.op (.mv (.t 15)))⟩ ::
⟨(some 136), none, (.op (.mv (.t 18)))⟩ ::
⟨(some 137), none, (.op (.ixsl 1 (.t 135) (.t 136)))⟩ ::
⟨(some 138), none, (.op (.load1 (.t 137)))⟩ ::
⟨(some 139), none, (.op (.mv (.t 15)))⟩ ::
⟨(some 140), none, (.op (.mv (.t 18)))⟩ ::
⟨(some 141), none, (.op (.int .add (.t 140) (.c (Value.int .i64 1))))⟩ ::
⟨(some 142), none, (.op (.ixsl 1 (.t 139) (.t 141)))⟩ ::
⟨(some 143), none, (.op (.load1 (.t 142)))⟩ ::
⟨(some 144), none, (.op (.neg (.t 143)))⟩ ::
⟨(some 20), none, (.op (.mv (.t 138)))⟩ ::
⟨(some 21), none, (.op (.mv (.t 144)))⟩ :: []) []) (.seq (.reg (
    ⟨(some 145), none, (.op (.loadn 3 (.t 4)))⟩ ::
⟨(some 146), none, (.op (.mkfn (Fn.func 90) [(.t 145)] []))⟩ ::
⟨(some 22), none, (.op (.mv (.t 146)))⟩ :: [])) (.seq (.seq (.dreg (
    ⟨(some 147), none, (.op (.mv (.t 22)))⟩ ::
⟨(some 148), none, (.op (.faddr 0 (.t 4)))⟩ ::
⟨(some 149), none, (.op (.faddr 1 (.t 148)))⟩ ::
⟨(some 150), none, (.op (.load1 (.t 149)))⟩ ::
⟨(some 151), none, (.op (.mv (.t 18)))⟩ ::
⟨(some 152), none, (.op (.ixsl 1 (.t 150) (.t 151)))⟩ ::
⟨(some 153), none, (.op (.load1 (.t 152)))⟩ ::
⟨(some 154), none, (.op (.mv (.t 21)))⟩ ::
⟨(some 155), none, (.op (.int .mul (.t 153) (.t 154)))⟩ ::
⟨(some 156), none, (.op (.faddr 0 (.t 4)))⟩ ::
⟨(some 157), none, (.op (.faddr 1 (.t 156)))⟩ ::
⟨(some 158), none, (.op (.load1 (.t 157)))⟩ ::
⟨(some 159), none, (.op (.mv (.t 18)))⟩ ::
⟨(some 160), none, (.op (.int .add (.t 159) (.c (Value.int .i64 1))))⟩ ::
⟨(some 161), none, (.op (.ixsl 1 (.t 158) (.t 160)))⟩ ::
⟨(some 162), none, (.op (.load1 (.t 161)))⟩ ::
⟨(some 163), none, (.op (.mv (.t 20)))⟩ ::
⟨(some 164), none, (.op (.int .mul (.t 162) (.t 163)))⟩ ::
⟨(some 165), none, (.op (.int .add (.t 155) (.t 164)))⟩ ::
⟨(some 166), none, (.op (.mv (.t 20)))⟩ ::
⟨(some 167), none, (.op (.mv (.t 21)))⟩ ::
⟨(some 168), none, (.op (.int .add (.t 166) (.t 167)))⟩ :: []) []) (.reg (
    ⟨(some 169), none, (.call (.t 147) [(.t 165), (.t 168)])⟩ ::
⟨none, none, (.op (.store 2 (.t 8) (.t 169)))⟩ ::
⟨(some 9), none, (.op (.mv (.c (Value.bool true))))⟩ :: []))) .ret)))))))))))))
def r68 : List ResultVar := [.cell 8 32, .tmp 9]
set_option maxRecDepth 1000000 in
set_option maxHeartbeats 4000000 in
theorem fun68 : Fun Try.prog 68 170 4 a68 r68 :=
  ⟨rfl, Try.f68, _, rfl, rfl, rfl, by decide, rfl, rfl, rfl⟩
/-- tumblehome/tumblehomeref08.on -/
noncomputable def a70 : ACode := (.seq (.reg (
    ⟨(some 4), none, (.op (.mv (.c (Value.bool false))))⟩ :: [])) (.seq (.reg (
    ⟨(some 5), none, (.op (.mv (.t 1)))⟩ ::
⟨(some 6), none, (.op (.mv (.t 0)))⟩ ::
⟨(some 7), none, (.op (.ixsl 1 (.t 6) (.c (Value.int .i64 0))))⟩ ::
⟨(some 8), none, (.op (.load1 (.t 7)))⟩ ::
⟨(some 9), none, (.op (.int .geq (.t 5) (.t 8)))⟩ ::
⟨(some 10), none, (.op (.mv (.t 9)))⟩ ::
⟨(some 11), (some (10, true)), (.op (.mv (.t 1)))⟩ ::
⟨(some 12), (some (10, true)), (.op (.mv (.t 0)))⟩ ::
⟨(some 13), (some (10, true)), (.op (.mv (.t 0)))⟩ ::
⟨(some 14), (some (10, true)), (.op (.len (.t 13)))⟩ ::
⟨(some 15), (some (10, true)), (.op (.int .sub (.t 14) (.c (Value.int .i64 1))))⟩ ::
⟨(some 16), (some (10, true)), (.op (.ixsl 1 (.t 12) (.t 15)))⟩ ::
⟨(some 17), (some (10, true)), (.op (.load1 (.t 16)))⟩ ::
⟨(some 18), (some (10, true)), (.op (.int .leq (.t 11) (.t 17)))⟩ ::
⟨(some 19), none, (.op (.pick (.t 10) (.t 18) (.c (Value.bool false))))⟩ ::
⟨(some 4), none, (.op (.mv (.t 19)))⟩ :: [])) .ret))
def r70 : List ResultVar := [.tmp 4]
set_option maxRecDepth 1000000 in
set_option maxHeartbeats 4000000 in
theorem fun70 : Fun Try.prog 70 20 2 a70 r70 :=
  ⟨rfl, Try.f70, _, rfl, rfl, rfl, by decide, rfl, rfl, rfl⟩
/-- (tumblehome/chart.sheet).pulls -/
noncomputable def a73 : ACode := (.seq (.reg (
    ⟨(some 2), none, (.op (.box (.t 0) 84))⟩ ::
⟨(some 4), none, (.op (.mv (.c (Value.slice none 0 0))))⟩ :: [])) (.seq (.reg (
    ⟨(some 5), none, (.op (.mv (.c (Value.slice none 0 0))))⟩ :: [])) (.seq (.seq (.reg (
    ⟨(some 10), none, (.op (.faddr 0 (.t 2)))⟩ ::
⟨(some 11), none, (.op (.faddr 2 (.t 10)))⟩ ::
⟨(some 12), none, (.op (.load1 (.t 11)))⟩ ::
⟨(some 13), none, (.op (.len (.t 12)))⟩ ::
⟨(some 14), none, (.op (.mv (.c (Value.int .i64 0))))⟩ :: [])) (.block 0 (.loop (.seq (.reg (
    ⟨(some 15), none, (.op (.int .lss (.t 14) (.t 13)))⟩ :: [])) (.seq (.cond (.t 15) .skip (.exit 0)) (.seq (.block 1 (.seq (.reg (
    ⟨(some 16), none, (.op (.mv (.t 14)))⟩ ::
⟨(some 17), none, (.op (.ixsl 1 (.t 12) (.t 14)))⟩ ::
⟨(some 18), none, (.op (.load1 (.t 17)))⟩ ::
⟨(some 6), none, (.op (.mv (.t 16)))⟩ ::
⟨(some 7), none, (.op (.mv (.t 18)))⟩ :: [])) (.seq (.reg (
    ⟨(some 19), none, (.op (.mv (.t 7)))⟩ ::
⟨(some 20), none, (.op (.len (.t 19)))⟩ ::
⟨(some 21), none, (.op (.mkslice [Value.int .i64 0] 8 2 (.t 20) (.t 20)))⟩ ::
⟨(some 8), none, (.op (.mv (.t 21)))⟩ :: [])) (.seq (.seq (.reg (
    ⟨(some 22), none, (.op (.mv (.t 7)))⟩ ::
⟨(some 23), none, (.op (.len (.t 22)))⟩ ::
⟨(some 24), none, (.op (.mv (.c (Value.int .i64 0))))⟩ :: [])) (.block 2 (.loop (.seq (.reg (
    ⟨(some 25), none, (.op (.int .lss (.t 24) (.t 23)))⟩ :: [])) (.seq (.cond (.t 25) .skip (.exit 2)) (.seq (.block 3 (.seq (.reg (
    ⟨(some 26), none, (.op (.mv (.t 24)))⟩ ::
⟨(some 9), none, (.op (.mv (.t 26)))⟩ :: [])) (.reg (
    ⟨(some 27), none, (.op (.mv (.t 8)))⟩ ::
⟨(some 28), none, (.op (.mv (.t 9)))⟩ ::
⟨(some 29), none, (.op (.mv (.t 1)))⟩ ::
⟨(some 30), none, (.op (.mv (.t 6)))⟩ ::
⟨(some 31), none, (.op (.mv (.t 9)))⟩ ::
⟨(some 32), none, (.op (.build [Value.int .i64 0, Value.int .i64 0] [(0, 1, (.t 30)), (1, 1, (.t 31))]))⟩ ::
⟨(some 33), none, (.call (.t 29) [(.t 32)])⟩ ::
⟨(some 34), none, (.op (.ixsl 1 (.t 27) (.t 28)))⟩ ::
⟨none, none, (.op (.store 1 (.t 34) (.t 33)))⟩ :: [])))) (.reg (
    ⟨(some 35), none, (.op (.int .add (.t 24) (.c (Value.int .i64 1))))⟩ ::
⟨(some 24), none, (.op (.mv (.t 35)))⟩ :: [])))))))) (.reg (
    ⟨(some 36), none, (.op (.mv (.t 5)))⟩ ::
⟨(some 37), none, (.op (.mv (.t 8)))⟩ ::
⟨(some 38), none, (.op (.bslice [Value.slice none 0 0] [(0, 1, (.t 37))] 1 22))⟩ ::
⟨(some 39), none, (.op (.append 22 1 24 (.t 36) (.t 38)))⟩ ::
⟨(some 5), none, (.op (.mv (.t 39)))⟩ :: [])))))) (.reg (
    ⟨(some 40), none, (.op (.int .add (.t 14) (.c (Value.int .i64 1))))⟩ ::
⟨(some 14), none, (.op (.mv (.t 40)))⟩ :: [])))))))) (.seq (.reg (
    ⟨(some 41), none, (.op (.mv (.t 5)))⟩ ::
⟨(some 4), none, (.op (.mv (.t 41)))⟩ :: [])) .ret))))
def r73 : List ResultVar := [.tmp 4]
set_option maxRecDepth 1000000 in
set_option maxHeartbeats 4000000 in
theorem fun73 : Fun Try.prog 73 42 2 a73 r73 :=
  ⟨rfl, Try.f73, _, rfl, rfl, rfl, by decide, rfl, rfl, rfl⟩
/-- tumblehome/chart.Sure$1 -/
noncomputable def a74 : ACode := (.seq (.reg (
    ⟨(some 3), none, (.op (.box (.t 0) 4))⟩ ::
⟨(some 4), none, (.op (.mv (.c (Value.slice none 0 0))))⟩ :: [])) (.seq (.reg (
    ⟨(some 5), none, (.op (.mv (.c (Value.slice none 0 0))))⟩ :: [])) (.seq (.seq (.reg (
    ⟨(some 8), none, (.op (.load1 (.t 1)))⟩ ::
⟨(some 9), none, (.op (.len (.t 8)))⟩ ::
⟨(some 10), none, (.op (.mv (.c (Value.int .i64 0))))⟩ :: [])) (.block 0 (.loop (.seq (.reg (
    ⟨(some 11), none, (.op (.int .lss (.t 10) (.t 9)))⟩ :: [])) (.seq (.cond (.t 11) .skip (.exit 0)) (.seq (.block 1 (.seq (.reg (
    ⟨(some 12), none, (.op (.mv (.t 10)))⟩ ::
⟨(some 13), none, (.op (.ixsl 2 (.t 8) (.t 10)))⟩ ::
⟨(some 14), none, (.op (.loadn 2 (.t 13)))⟩ ::
⟨(some 7), none, (.op (.alloc [Value.int .i64 0, Value.int .i64 0] 28))⟩ ::
⟨(some 6), none, (.op (.mv (.t 12)))⟩ ::
⟨none, none, (.op (.store 2 (.t 7) (.t 14)))⟩ :: [])) (.seq (.reg (
    ⟨(some 15), none, (.op (.load1 (.t 1)))⟩ ::
⟨(some 16), none, (.op (.mkfn (Fn.func 76) [] [(.t 2), (.t 7), (.t 3)]))⟩ ::
⟨(some 17), none, (.call (.c (Value.func (.func 75) #[] #[])) [(.t 15), (.t 16)])⟩ ::
⟨(some 18), none, (.op (.not (.t 17)))⟩ :: [])) (.cond (.t 18) (.reg (
    ⟨(some 19), none, (.op (.mv (.t 5)))⟩ ::
⟨(some 20), none, (.op (.mv (.t 6)))⟩ ::
⟨(some 21), none, (.op (.bslice [Value.int .i64 0] [(0, 1, (.t 20))] 1 3))⟩ ::
⟨(some 22), none, (.op (.append 3 1 8 (.t 19) (.t 21)))⟩ ::
⟨(some 5), none, (.op (.mv (.t 22)))⟩ :: [])) .skip)))) (.reg (
    ⟨(some 23), none, (.op (.int .add (.t 10) (.c (Value.int .i64 1))))⟩ ::
⟨(some 10), none, (.op (.mv (.t 23)))⟩ :: [])))))))) (.seq (.reg (
    ⟨(some 24), none, (.op (.mv (.t 5)))⟩ ::
⟨(some 4), none, (.op (.mv (.t 24)))⟩ :: [])) .ret))))
def r74 : List ResultVar := [.tmp 4]
set_option maxRecDepth 1000000 in
set_option maxHeartbeats 4000000 in
theorem fun74 : Fun Try.prog 74 25 3 a74 r74 :=
  ⟨rfl, Try.f74, _, rfl, rfl, rfl, by decide, rfl, rfl, rfl⟩
/-- slices.ContainsFunc[[]tumblehome/api.ChartPoint,tumblehome/api.ChartPoint] -/
noncomputable def a75 : ACode := (.seq (.reg (
    ⟨(some 4), none, (.op (.mv (.c (Value.bool false))))⟩ :: [])) (.seq (.reg (
    ⟨(some 5), none, (.op (.mv (.t 0)))⟩ ::
⟨(some 6), none, (.op (.mv (.t 1)))⟩ ::
⟨(some 7), none, (.call (.c (Value.func (.func 97) #[] #[])) [(.t 5), (.t 6)])⟩ ::
⟨(some 8), none, (.op (.int .geq (.t 7) (.c (Value.int .i64 0))))⟩ ::
⟨(some 4), none, (.op (.mv (.t 8)))⟩ :: [])) .ret))
def r75 : List ResultVar := [.tmp 4]
set_option maxRecDepth 1000000 in
set_option maxHeartbeats 4000000 in
theorem fun75 : Fun Try.prog 75 9 2 a75 r75 :=
  ⟨rfl, Try.f75, _, rfl, rfl, rfl, by decide, rfl, rfl, rfl⟩
/-- tumblehome/chart.Sure$1$1 -/
noncomputable def a76 : ACode := (.seq (.reg (
    ⟨(some 4), none, (.op (.box (.t 0) 28))⟩ ::
⟨(some 5), none, (.op (.mv (.c (Value.bool false))))⟩ :: [])) (.seq (.reg (
    ⟨(some 6), none, (.op (.loadn 3 (.t 1)))⟩ ::
⟨(some 7), none, (.op (.loadn 2 (.t 2)))⟩ ::
⟨(some 8), none, (.op (.loadn 2 (.t 4)))⟩ ::
⟨(some 9), none, (.op (.load1 (.t 3)))⟩ ::
⟨(some 10), none, (.call (.c (Value.func (.func 77) #[] #[])) [(.t 6), (.t 7), (.t 8), (.t 9)])⟩ ::
⟨(some 11), none, (.op (.field1 0 (.t 10)))⟩ ::
⟨(some 12), none, (.op (.int .lss (.t 11) (.c (Value.int .i64 0))))⟩ ::
⟨(some 5), none, (.op (.mv (.t 12)))⟩ :: [])) .ret))
def r76 : List ResultVar := [.tmp 5]
set_option maxRecDepth 1000000 in
set_option maxHeartbeats 4000000 in
theorem fun76 : Fun Try.prog 76 13 4 a76 r76 :=
  ⟨rfl, Try.f76, _, rfl, rfl, rfl, by decide, rfl, rfl, rfl⟩
/-- (tumblehome/chart.sheet).far -/
noncomputable def a77 : ACode := (.seq (.reg (
    ⟨(some 4), none, (.op (.box (.t 0) 84))⟩ ::
⟨(some 5), none, (.op (.box (.t 1) 28))⟩ ::
⟨(some 6), none, (.op (.box (.t 2) 28))⟩ ::
⟨(some 8), none, (.op (.alloc [Value.int .i64 0, Value.int .i64 0] 32))⟩ :: [])) (.seq (.reg (
    ⟨(some 15), none, (.op (.loadn 3 (.t 4)))⟩ ::
⟨(some 16), none, (.op (.loadn 2 (.t 5)))⟩ ::
⟨(some 17), none, (.op (.loadn 2 (.t 6)))⟩ ::
⟨(some 18), none, (.call (.c (Value.func (.func 84) #[] #[])) [(.t 15), (.t 16), (.t 17)])⟩ ::
⟨(some 14), none, (.op (.mv (.t 18)))⟩ ::
⟨(some 19), none, (.op (.extract (.t 14) 0))⟩ ::
⟨(some 20), none, (.op (.extract (.t 14) 1))⟩ ::
⟨(some 9), none, (.op (.mv (.t 19)))⟩ ::
⟨(some 10), none, (.op (.mv (.t 20)))⟩ :: [])) (.seq (.reg (
    ⟨(some 11), none, (.op (.mv (.c (Value.int .i64 0))))⟩ :: [])) (.seq (.seq (.reg (
    ⟨(some 21), none, (.op (.mv (.t 9)))⟩ ::
⟨(some 22), none, (.op (.mrange (.t 21)))⟩ :: [])) (.block 0 (.loop (.seq (.next (.t 22) 23 24) (.seq (.cond (.t 24) .skip (.exit 0)) (.block 1 (.seq (.reg (
    ⟨(some 25), none, (.op (.entry (.t 22)))⟩ ::
⟨(some 26), none, (.op (.extract (.t 25) 0))⟩ ::
⟨(some 27), none, (.op (.extract (.t 25) 1))⟩ ::
⟨(some 12), none, (.op (.alloc [Value.int .i64 0, Value.int .i64 0] 88))⟩ ::
⟨none, none, (.op (.store 2 (.t 12) (.t 26)))⟩ ::
⟨(some 13), none, (.op (.mv (.t 27)))⟩ :: [])) (.reg (
    ⟨(some 28), none, (.op (.mv (.t 11)))⟩ ::
⟨(some 29), none, (.op (.mv (.t 13)))⟩ ::
⟨(some 30), none, (.op (.loadn 3 (.t 4)))⟩ ::
⟨(some 31), none, (.op (.loadn 2 (.t 12)))⟩ ::
⟨(some 32), none, (.op (.mv (.t 13)))⟩ ::
⟨(some 33), none, (.op (.mv (.t 3)))⟩ ::
⟨(some 34), none, (.call (.c (Value.func (.func 86) #[] #[])) [(.t 30), (.t 31), (.t 32), (.t 33)])⟩ ::
⟨(some 35), none, (.op (.int .mul (.t 29) (.t 34)))⟩ ::
⟨(some 36), none, (.op (.int .add (.t 28) (.t 35)))⟩ ::
⟨(some 11), none, (.op (.mv (.t 36)))⟩ :: []))))))))) (.seq (.reg (
    ⟨(some 37), none, (.op (.loadn 3 (.t 4)))⟩ ::
⟨(some 38), none, (.op (.mv (.t 11)))⟩ ::
⟨(some 39), none, (.op (.mv (.t 10)))⟩ ::
⟨(some 40), none, (.call (.c (Value.func (.func 90) #[] #[])) [(.t 37), (.t 38), (.t 39)])⟩ ::
⟨none, none, (.op (.store 2 (.t 8) (.t 40)))⟩ :: [])) .ret)))))
def r77 : List ResultVar := [.cell 8 32]
set_option maxRecDepth 1000000 in
set_option maxHeartbeats 4000000 in
theorem fun77 : FunD Try.prog 77 41 4 a77 r77 :=
  ⟨rfl, Try.f77, _, rfl, rfl, rfl, by decide, rfl, rfl, rfl⟩
/-- tumblehome/tumblehomeref08.before -/
noncomputable def a78 : ACode := (.seq (.reg (
    ⟨(some 4), none, (.op (.mv (.c (Value.int .i64 0))))⟩ :: [])) (.seq (.reg (
    ⟨(some 5), none, (.op (.mv (.c (Value.int .i64 0))))⟩ :: [])) (.seq (.block 0 (.loop (.seq (.seq (.reg (
    ⟨(some 6), none, (.op (.mv (.t 0)))⟩ ::
⟨(some 7), none, (.op (.mv (.t 5)))⟩ ::
⟨(some 8), none, (.op (.int .add (.t 7) (.c (Value.int .i64 1))))⟩ ::
⟨(some 9), none, (.op (.ixsl 1 (.t 6) (.t 8)))⟩ ::
⟨(some 10), none, (.op (.load1 (.t 9)))⟩ ::
⟨(some 11), none, (.op (.mv (.t 1)))⟩ ::
⟨(some 12), none, (.op (.int .lss (.t 10) (.t 11)))⟩ :: [])) (.cond (.t 12) .skip (.exit 0))) (.block 1 (.reg (
    ⟨(some 13), none, (.op (.mv (.t 5)))⟩ ::
⟨(some 14), none, (.op (.int .add (.t 13) (.c (Value.int .i64 1))))⟩ ::
⟨(some 5), none, (.op (.mv (.t 14)))⟩ :: [])))))) (.seq (.reg (
    ⟨(some 15), none, (.op (.mv (.t 5)))⟩ ::
⟨(some 4), none, (.op (.mv (.t 15)))⟩ :: [])) .ret))))
def r78 : List ResultVar := [.tmp 4]
set_option maxRecDepth 1000000 in
set_option maxHeartbeats 4000000 in
theorem fun78 : Fun Try.prog 78 16 2 a78 r78 :=
  ⟨rfl, Try.f78, _, rfl, rfl, rfl, by decide, rfl, rfl, rfl⟩
/-- tumblehome/tumblehomelaw08.sum -/
noncomputable def a79 : ACode := (.seq (.reg (
    ⟨(some 2), none, (.op (.box (.t 0) 32))⟩ ::
⟨(some 3), none, (.op (.box (.t 1) 32))⟩ ::
⟨(some 4), none, (.op (.alloc [Value.int .i64 0, Value.int .i64 0] 32))⟩ :: [])) (.seq (.reg (
    ⟨(some 5), none, (.op (.faddr 0 (.t 2)))⟩ ::
⟨(some 6), none, (.op (.load1 (.t 5)))⟩ ::
⟨(some 7), none, (.op (.faddr 1 (.t 3)))⟩ ::
⟨(some 8), none, (.op (.load1 (.t 7)))⟩ ::
⟨(some 9), none, (.op (.int .mul (.t 6) (.t 8)))⟩ ::
⟨(some 10), none, (.op (.faddr 0 (.t 3)))⟩ ::
⟨(some 11), none, (.op (.load1 (.t 10)))⟩ ::
⟨(some 12), none, (.op (.faddr 1 (.t 2)))⟩ ::
⟨(some 13), none, (.op (.load1 (.t 12)))⟩ ::
⟨(some 14), none, (.op (.int .mul (.t 11) (.t 13)))⟩ ::
⟨(some 15), none, (.op (.int .add (.t 9) (.t 14)))⟩ ::
⟨(some 16), none, (.op (.faddr 1 (.t 2)))⟩ ::
⟨(some 17), none, (.op (.load1 (.t 16)))⟩ ::
⟨(some 18), none, (.op (.faddr 1 (.t 3)))⟩ ::
⟨(some 19), none, (.op (.load1 (.t 18)))⟩ ::
⟨(some 20), none, (.op (.int .mul (.t 17) (.t 19)))⟩ ::
⟨(some 21), none, (.call (.c (Value.func (.func 36) #[] #[])) [(.t 15), (.t 20)])⟩ ::
⟨none, none, (.op (.store 2 (.t 4) (.t 21)))⟩ :: [])) .ret))
def r79 : List ResultVar := [.cell 4 32]
set_option maxRecDepth 1000000 in
set_option maxHeartbeats 4000000 in
theorem fun79 : Fun Try.prog 79 22 2 a79 r79 :=
  ⟨rfl, Try.f79, _, rfl, rfl, rfl, by decide, rfl, rfl, rfl⟩
/-- tumblehome/tumblehomelaw08.times -/
noncomputable def a80 : ACode := (.seq (.reg (
    ⟨(some 2), none, (.op (.box (.t 0) 32))⟩ ::
⟨(some 3), none, (.op (.box (.t 1) 32))⟩ ::
⟨(some 4), none, (.op (.alloc [Value.int .i64 0, Value.int .i64 0] 32))⟩ :: [])) (.seq (.dreg (
    ⟨(some 7), none, (.op (.faddr 0 (.t 2)))⟩ ::
⟨(some 8), none, (.op (.load1 (.t 7)))⟩ ::
⟨(some 9), none, (.op (.faddr 1 (.t 3)))⟩ ::
⟨(some 10), none, (.op (.load1 (.t 9)))⟩ ::
⟨(some 11), none, (.call (.c (Value.func (.func 36) #[] #[])) [(.t 8), (.t 10)])⟩ ::
⟨(some 12), none, (.op (.faddr 0 (.t 3)))⟩ ::
⟨(some 13), none, (.op (.load1 (.t 12)))⟩ ::
⟨(some 14), none, (.op (.faddr 1 (.t 2)))⟩ ::
⟨(some 15), none, (.op (.load1 (.t 14)))⟩ ::
⟨(some 16), none, (.call (.c (Value.func (.func 36) #[] #[])) [(.t 13), (.t 15)])⟩ ::
⟨(some 5), none, (.op (.alloc [Value.int .i64 0, Value.int .i64 0] 32))⟩ ::
⟨(some 6), none, (.op (.alloc [Value.int .i64 0, Value.int .i64 0] 32))⟩ ::
⟨none, none, (.op (.store 2 (.t 5) (.t 11)))⟩ ::
⟨none, none, (.op (.store 2 (.t 6) (.t 16)))⟩ :: []) []) (.seq (.reg (
    ⟨(some 17), none, (.op (.faddr 0 (.t 5)))⟩ ::
⟨(some 18), none, (.op (.load1 (.t 17)))⟩ ::
⟨(some 19), none, (.op (.faddr 0 (.t 6)))⟩ ::
⟨(some 20), none, (.op (.load1 (.t 19)))⟩ ::
⟨(some 21), none, (.op (.int .mul (.t 18) (.t 20)))⟩ ::
⟨(some 22), none, (.op (.faddr 1 (.t 5)))⟩ ::
⟨(some 23), none, (.op (.load1 (.t 22)))⟩ ::
⟨(some 24), none, (.op (.faddr 1 (.t 6)))⟩ ::
⟨(some 25), none, (.op (.load1 (.t 24)))⟩ ::
⟨(some 26), none, (.op (.int .mul (.t 23) (.t 25)))⟩ ::
⟨(some 27), none, (.call (.c (Value.func (.func 36) #[] #[])) [(.t 21), (.t 26)])⟩ ::
⟨none, none, (.op (.store 2 (.t 4) (.t 27)))⟩ :: [])) .ret)))
def r80 : List ResultVar := [.cell 4 32]
set_option maxRecDepth 1000000 in
set_option maxHeartbeats 4000000 in
theorem fun80 : Fun Try.prog 80 28 2 a80 r80 :=
  ⟨rfl, Try.f80, _, rfl, rfl, rfl, by decide, rfl, rfl, rfl⟩
/-- tumblehome/tumblehomelaw08.down -/
noncomputable def a81 : ACode := (.seq (.reg (
    ⟨(some 1), none, (.op (.box (.t 0) 32))⟩ ::
⟨(some 2), none, (.op (.mv (.c (Value.int .i64 0))))⟩ :: [])) (.seq (.reg (
    ⟨(some 4), none, (.op (.faddr 0 (.t 1)))⟩ ::
⟨(some 5), none, (.op (.load1 (.t 4)))⟩ ::
⟨(some 6), none, (.op (.faddr 1 (.t 1)))⟩ ::
⟨(some 7), none, (.op (.load1 (.t 6)))⟩ ::
⟨(some 8), none, (.op (.idiv true (.t 5) (.t 7)))⟩ ::
⟨(some 3), none, (.op (.mv (.t 8)))⟩ :: [])) (.seq (.seq (.reg (
    ⟨(some 9), none, (.op (.faddr 0 (.t 1)))⟩ ::
⟨(some 10), none, (.op (.load1 (.t 9)))⟩ ::
⟨(some 11), none, (.op (.faddr 1 (.t 1)))⟩ ::
⟨(some 12), none, (.op (.load1 (.t 11)))⟩ ::
⟨(some 13), none, (.op (.idiv false (.t 10) (.t 12)))⟩ ::
⟨(some 14), none, (.op (.int .lss (.t 13) (.c (Value.int .i64 0))))⟩ :: [])) (.cond (.t 14) (.reg (
    ⟨(some 15), none, (.op (.mv (.t 3)))⟩ ::
⟨(some 16), none, (.op (.int .sub (.t 15) (.c (Value.int .i64 1))))⟩ ::
⟨(some 3), none, (.op (.mv (.t 16)))⟩ :: [])) .skip)) (.seq (.reg (
    ⟨(some 17), none, (.op (.mv (.t 3)))⟩ ::
⟨(some 2), none, (.op (.mv (.t 17)))⟩ :: [])) .ret))))
def r81 : List ResultVar := [.tmp 2]
set_option maxRecDepth 1000000 in
set_option maxHeartbeats 4000000 in
theorem fun81 : Fun Try.prog 81 18 1 a81 r81 :=
  ⟨rfl, Try.f81, _, rfl, rfl, rfl, by decide, rfl, rfl, rfl⟩
/-- (tumblehome/chart.sheet).more -/
noncomputable def a84A0 : ACode := (.seq (.reg (
    ⟨(some 11), none, (.op (.alloc [Value.int .i64 0, Value.int .i64 0] 88))⟩ ::
⟨none, none, (.op (.store 2 (.t 11) (.t 25)))⟩ :: [])) (.reg (
    ⟨(some 12), none, (.op (.mv (.t 26)))⟩ :: [])))
noncomputable def a84B0 : ACode := (.block 1 (.seq (.reg (
    ⟨(some 27), none, (.op (.mv (.t 12)))⟩ ::
⟨(some 28), none, (.op (.int .neq (.t 27) (.c (Value.int .i64 0))))⟩ :: [])) (.cond (.t 28) (.dreg (
    ⟨(some 29), none, (.op (.load1 (.t 10)))⟩ ::
⟨(some 30), none, (.op (.loadn 2 (.t 11)))⟩ ::
⟨(some 31), none, (.op (.lookup 88 (Value.int .i64 0) false (.t 29) (.t 30)))⟩ ::
⟨(some 32), none, (.op (.mv (.t 12)))⟩ ::
⟨(some 33), none, (.op (.load1 (.t 9)))⟩ ::
⟨(some 34), none, (.op (.int .mul (.t 32) (.t 33)))⟩ ::
⟨(some 35), none, (.op (.int .add (.t 31) (.t 34)))⟩ ::
⟨(some 36), none, (.op (.mapent 88 (Value.int .i64 0) (.t 29) (.t 30)))⟩ ::
⟨(some 37), none, (.op (.extract (.t 36) 1))⟩ ::
⟨none, none, (.op (.entst (.t 29) (.t 37) (.t 35)))⟩ :: []) []) .skip)))
set_option maxRecDepth 1000000 in
set_option maxHeartbeats 4000000 in
theorem c84A0 : cCode Try.prog 62 false (rfAt Try.f84 0).1 = some a84A0 := rfl
set_option maxRecDepth 1000000 in
set_option maxHeartbeats 4000000 in
theorem c84B0 : cCode Try.prog 62 false (rfAt Try.f84 0).2 = some a84B0 := rfl
noncomputable def a84A1 : ACode := (.seq (.reg (
    ⟨(some 13), none, (.op (.alloc [Value.int .i64 0, Value.int .i64 0] 88))⟩ ::
⟨none, none, (.op (.store 2 (.t 13) (.t 41)))⟩ :: [])) (.reg (
    ⟨(some 14), none, (.op (.mv (.t 42)))⟩ :: [])))
noncomputable def a84B1 : ACode := (.block 3 (.seq (.dreg (
    ⟨(some 43), none, (.op (.load1 (.t 10)))⟩ ::
⟨(some 44), none, (.op (.loadn 2 (.t 13)))⟩ ::
⟨(some 45), none, (.op (.lookup 88 (Value.int .i64 0) false (.t 43) (.t 44)))⟩ ::
⟨(some 46), none, (.op (.mv (.t 14)))⟩ ::
⟨(some 47), none, (.op (.load1 (.t 8)))⟩ ::
⟨(some 48), none, (.op (.int .mul (.t 46) (.t 47)))⟩ ::
⟨(some 49), none, (.op (.int .sub (.t 45) (.t 48)))⟩ ::
⟨(some 50), none, (.op (.mapent 88 (Value.int .i64 0) (.t 43) (.t 44)))⟩ ::
⟨(some 51), none, (.op (.extract (.t 50) 1))⟩ ::
⟨none, none, (.op (.entst (.t 43) (.t 51) (.t 49)))⟩ :: []) []) (.seq (.reg (
    ⟨(some 52), none, (.op (.load1 (.t 10)))⟩ ::
⟨(some 53), none, (.op (.loadn 2 (.t 13)))⟩ ::
⟨(some 54), none, (.op (.lookup 88 (Value.int .i64 0) false (.t 52) (.t 53)))⟩ ::
⟨(some 55), none, (.op (.int .eql (.t 54) (.c (Value.int .i64 0))))⟩ :: [])) (.cond (.t 55) (.reg (
    ⟨(some 56), none, (.op (.load1 (.t 10)))⟩ ::
⟨(some 57), none, (.op (.loadn 2 (.t 13)))⟩ ::
⟨none, none, (.op (.delete 88 (.t 56) (.t 57)))⟩ :: [])) .skip))))
set_option maxRecDepth 1000000 in
set_option maxHeartbeats 4000000 in
theorem c84A1 : cCode Try.prog 62 false (rfAt Try.f84 1).1 = some a84A1 := rfl
set_option maxRecDepth 1000000 in
set_option maxHeartbeats 4000000 in
theorem c84B1 : cCode Try.prog 62 false (rfAt Try.f84 1).2 = some a84B1 := rfl
noncomputable def a84 : ACode := (.seq (.reg (
    ⟨(some 3), none, (.op (.box (.t 0) 84))⟩ ::
⟨(some 4), none, (.op (.box (.t 1) 28))⟩ ::
⟨(some 5), none, (.op (.box (.t 2) 28))⟩ ::
⟨(some 6), none, (.op (.mv (.c (Value.map none))))⟩ ::
⟨(some 7), none, (.op (.mv (.c (Value.int .i64 0))))⟩ :: [])) (.seq (.dreg (
    ⟨(some 15), none, (.op (.loadn 3 (.t 3)))⟩ ::
⟨(some 16), none, (.op (.loadn 2 (.t 4)))⟩ ::
⟨(some 17), none, (.call (.c (Value.func (.func 91) #[] #[])) [(.t 15), (.t 16)])⟩ ::
⟨(some 18), none, (.op (.loadn 3 (.t 3)))⟩ ::
⟨(some 19), none, (.op (.loadn 2 (.t 5)))⟩ ::
⟨(some 20), none, (.call (.c (Value.func (.func 91) #[] #[])) [(.t 18), (.t 19)])⟩ ::
⟨(some 8), none, (.op (.alloc [Value.int .i64 0] 2))⟩ ::
⟨(some 9), none, (.op (.alloc [Value.int .i64 0] 2))⟩ ::
⟨none, none, (.op (.store 1 (.t 8) (.t 17)))⟩ ::
⟨none, none, (.op (.store 1 (.t 9) (.t 20)))⟩ :: []) []) (.seq (.reg (
    ⟨(some 21), none, (.op (.mkmap))⟩ ::
⟨(some 10), none, (.op (.alloc [Value.map none] 119))⟩ ::
⟨none, none, (.op (.store 1 (.t 10) (.t 21)))⟩ :: [])) (.seq (.seq (.reg (
    ⟨(some 22), none, (.op (.loadn 3 (.t 3)))⟩ ::
⟨(some 23), none, (.op (.loadn 2 (.t 4)))⟩ ::
⟨(some 24), none, (.call (.c (Value.func (.func 89) #[] #[])) [(.t 22), (.t 23)])⟩ :: [])) (.block 0 (.range (.t 24) [25, 26] 62 (rfAt Try.f84 0).1 (rfAt Try.f84 0).2 a84A0 a84B0))) (.seq (.seq (.reg (
    ⟨(some 38), none, (.op (.loadn 3 (.t 3)))⟩ ::
⟨(some 39), none, (.op (.loadn 2 (.t 5)))⟩ ::
⟨(some 40), none, (.call (.c (Value.func (.func 89) #[] #[])) [(.t 38), (.t 39)])⟩ :: [])) (.block 2 (.range (.t 40) [41, 42] 62 (rfAt Try.f84 1).1 (rfAt Try.f84 1).2 a84A1 a84B1))) (.seq (.dreg (
    ⟨(some 58), none, (.op (.load1 (.t 10)))⟩ ::
⟨(some 59), none, (.op (.load1 (.t 8)))⟩ ::
⟨(some 60), none, (.op (.load1 (.t 9)))⟩ ::
⟨(some 61), none, (.op (.int .mul (.t 59) (.t 60)))⟩ ::
⟨(some 6), none, (.op (.mv (.t 58)))⟩ ::
⟨(some 7), none, (.op (.mv (.t 61)))⟩ :: []) []) .ret))))))
def r84 : List ResultVar := [.tmp 6, .tmp 7]
set_option maxRecDepth 1000000 in
set_option maxHeartbeats 4000000 in
theorem fun84 : Fun Try.prog 84 62 3 a84 r84 :=
  ⟨rfl, Try.f84, _, rfl, rfl, rfl, by decide, rfl, rfl, rfl⟩
/-- (tumblehome/chart.sheet).end -/
noncomputable def a86 : ACode := (.seq (.reg (
    ⟨(some 4), none, (.op (.box (.t 0) 84))⟩ ::
⟨(some 5), none, (.op (.box (.t 1) 88))⟩ ::
⟨(some 8), none, (.op (.mv (.c (Value.int .i64 0))))⟩ :: [])) (.seq (.seq (.reg (
    ⟨(some 9), none, (.op (.mv (.t 3)))⟩ ::
⟨(some 10), none, (.op (.mv (.t 2)))⟩ ::
⟨(some 11), none, (.op (.int .gtr (.t 10) (.c (Value.int .i64 0))))⟩ ::
⟨(some 12), none, (.op (.pure (rawOp Try.f86 1 3)))⟩ :: [])) (.cond (.t 12) (.seq (.reg (
    ⟨(some 13), none, (.op (.loadn 3 (.t 4)))⟩ ::
⟨(some 14), none, (.op (.loadn 2 (.t 5)))⟩ ::
⟨(some 15), none, (.call (.c (Value.func (.func 56) #[] #[])) [(.t 13), (.t 14)])⟩ ::
⟨(some 8), none, (.op (.mv (.t 15)))⟩ :: [])) .ret) .skip)) (.seq (.reg (
    ⟨(some 16), none, (.op (.loadn 3 (.t 4)))⟩ ::
⟨(some 17), none, (.op (.loadn 2 (.t 5)))⟩ ::
⟨(some 18), none, (.call (.c (Value.func (.func 55) #[] #[])) [(.t 16), (.t 17)])⟩ ::
⟨(some 8), none, (.op (.mv (.t 18)))⟩ :: [])) .ret)))
def r86 : List ResultVar := [.tmp 8]
set_option maxRecDepth 1000000 in
set_option maxHeartbeats 4000000 in
theorem fun86 : Fun Try.prog 86 19 4 a86 r86 :=
  ⟨rfl, Try.f86, _, rfl, rfl, rfl, by decide, rfl, rfl, rfl⟩
/-- (tumblehome/chart.sheet).on$1 -/
noncomputable def a87 : ACode := (.seq (.reg (
    ⟨(some 2), none, (.op (.box (.t 0) 28))⟩ ::
⟨(some 3), none, (.op (.mv (.c (Value.bool false))))⟩ :: [])) (.seq (.reg (
    ⟨(some 9), none, (.op (.faddr 0 (.t 1)))⟩ ::
⟨(some 10), none, (.op (.faddr 0 (.t 9)))⟩ ::
⟨(some 11), none, (.op (.load1 (.t 10)))⟩ ::
⟨(some 12), none, (.op (.faddr 0 (.t 2)))⟩ ::
⟨(some 13), none, (.op (.load1 (.t 12)))⟩ ::
⟨(some 14), none, (.call (.c (Value.func (.func 88) #[] #[])) [(.t 11), (.t 13)])⟩ ::
⟨(some 8), none, (.op (.mv (.t 14)))⟩ ::
⟨(some 15), none, (.op (.extract (.t 8) 0))⟩ ::
⟨(some 16), none, (.op (.extract (.t 8) 1))⟩ ::
⟨(some 4), none, (.op (.mv (.t 15)))⟩ ::
⟨(some 5), none, (.op (.mv (.t 16)))⟩ :: [])) (.seq (.reg (
    ⟨(some 18), none, (.op (.faddr 0 (.t 1)))⟩ ::
⟨(some 19), none, (.op (.faddr 1 (.t 18)))⟩ ::
⟨(some 20), none, (.op (.load1 (.t 19)))⟩ ::
⟨(some 21), none, (.op (.faddr 1 (.t 2)))⟩ ::
⟨(some 22), none, (.op (.load1 (.t 21)))⟩ ::
⟨(some 23), none, (.call (.c (Value.func (.func 88) #[] #[])) [(.t 20), (.t 22)])⟩ ::
⟨(some 17), none, (.op (.mv (.t 23)))⟩ ::
⟨(some 24), none, (.op (.extract (.t 17) 0))⟩ ::
⟨(some 25), none, (.op (.extract (.t 17) 1))⟩ ::
⟨(some 6), none, (.op (.mv (.t 24)))⟩ ::
⟨(some 7), none, (.op (.mv (.t 25)))⟩ :: [])) (.seq (.reg (
    ⟨(some 26), none, (.op (.mv (.t 5)))⟩ ::
⟨(some 27), none, (.op (.not (.t 26)))⟩ ::
⟨(some 28), none, (.op (.mv (.t 27)))⟩ ::
⟨(some 29), (some (28, false)), (.op (.mv (.t 7)))⟩ ::
⟨(some 30), (some (28, false)), (.op (.not (.t 29)))⟩ ::
⟨(some 31), none, (.op (.pick (.t 28) (.c (Value.bool true)) (.t 30)))⟩ ::
⟨(some 3), none, (.op (.mv (.t 31)))⟩ :: [])) .ret))))
def r87 : List ResultVar := [.tmp 3]
set_option maxRecDepth 1000000 in
set_option maxHeartbeats 4000000 in
theorem fun87 : Fun Try.prog 87 32 2 a87 r87 :=
  ⟨rfl, Try.f87, _, rfl, rfl, rfl, by decide, rfl, rfl, rfl⟩
/-- tumblehome/chart.neighbour[int64] -/
noncomputable def a88 : ACode := (.seq (.reg (
    ⟨(some 4), none, (.op (.mv (.c (Value.int .i64 0))))⟩ ::
⟨(some 5), none, (.op (.mv (.c (Value.bool false))))⟩ :: [])) (.seq (.reg (
    ⟨(some 9), none, (.op (.mv (.t 0)))⟩ ::
⟨(some 10), none, (.op (.mv (.t 1)))⟩ ::
⟨(some 11), none, (.call (.c (Value.func (.func 98) #[] #[])) [(.t 9), (.t 10)])⟩ ::
⟨(some 8), none, (.op (.mv (.t 11)))⟩ ::
⟨(some 12), none, (.op (.extract (.t 8) 0))⟩ ::
⟨(some 13), none, (.op (.extract (.t 8) 1))⟩ ::
⟨(some 6), none, (.op (.mv (.t 12)))⟩ ::
⟨(some 7), none, (.op (.mv (.t 13)))⟩ :: [])) (.seq (.reg (
    ⟨(some 14), none, (.op (.mv (.t 6)))⟩ ::
⟨(some 15), none, (.op (.int .sub (.t 14) (.c (Value.int .i64 1))))⟩ ::
⟨(some 16), none, (.op (.mnmx true (.c (Value.int .i64 0)) (.t 15)))⟩ ::
⟨(some 17), none, (.op (.mv (.t 1)))⟩ ::
⟨(some 18), none, (.op (.mv (.t 0)))⟩ ::
⟨(some 19), none, (.op (.ixsl 1 (.t 18) (.c (Value.int .i64 0))))⟩ ::
⟨(some 20), none, (.op (.load1 (.t 19)))⟩ ::
⟨(some 21), none, (.op (.int .geq (.t 17) (.t 20)))⟩ ::
⟨(some 22), none, (.op (.mv (.t 21)))⟩ ::
⟨(some 23), (some (22, true)), (.op (.mv (.t 6)))⟩ ::
⟨(some 24), (some (22, true)), (.op (.mv (.t 0)))⟩ ::
⟨(some 25), (some (22, true)), (.op (.len (.t 24)))⟩ ::
⟨(some 26), (some (22, true)), (.op (.int .lss (.t 23) (.t 25)))⟩ ::
⟨(some 27), none, (.op (.pick (.t 22) (.t 26) (.c (Value.bool false))))⟩ ::
⟨(some 4), none, (.op (.mv (.t 16)))⟩ ::
⟨(some 5), none, (.op (.mv (.t 27)))⟩ :: [])) .ret)))
def r88 : List ResultVar := [.tmp 4, .tmp 5]
set_option maxRecDepth 1000000 in
set_option maxHeartbeats 4000000 in
theorem fun88 : Fun Try.prog 88 28 2 a88 r88 :=
  ⟨rfl, Try.f88, _, rfl, rfl, rfl, by decide, rfl, rfl, rfl⟩
/-- (tumblehome/chart.sheet).corners -/
noncomputable def a89 : ACode := (.seq (.reg (
    ⟨(some 2), none, (.op (.box (.t 0) 84))⟩ ::
⟨(some 3), none, (.op (.box (.t 1) 28))⟩ ::
⟨(some 4), none, (.op (.mv (.c (Value.nilFunc))))⟩ :: [])) (.seq (.reg (
    ⟨(some 12), none, (.op (.faddr 0 (.t 2)))⟩ ::
⟨(some 13), none, (.op (.faddr 0 (.t 12)))⟩ ::
⟨(some 14), none, (.op (.load1 (.t 13)))⟩ ::
⟨(some 15), none, (.op (.faddr 0 (.t 3)))⟩ ::
⟨(some 16), none, (.op (.load1 (.t 15)))⟩ ::
⟨(some 17), none, (.call (.c (Value.func (.func 88) #[] #[])) [(.t 14), (.t 16)])⟩ ::
⟨(some 11), none, (.op (.mv (.t 17)))⟩ ::
⟨(some 18), none, (.op (.extract (.t 11) 0))⟩ ::
⟨(some 19), none, (.op (.extract (.t 11) 1))⟩ ::
⟨(some 5), none, (.op (.alloc [Value.int .i64 0] 3))⟩ ::
⟨none, none, (.op (.store 1 (.t 5) (.t 18)))⟩ ::
⟨(some 6), none, (.op (.mv (.t 19)))⟩ :: [])) (.seq (.reg (
    ⟨(some 21), none, (.op (.faddr 0 (.t 2)))⟩ ::
⟨(some 22), none, (.op (.faddr 1 (.t 21)))⟩ ::
⟨(some 23), none, (.op (.load1 (.t 22)))⟩ ::
⟨(some 24), none, (.op (.faddr 1 (.t 3)))⟩ ::
⟨(some 25), none, (.op (.load1 (.t 24)))⟩ ::
⟨(some 26), none, (.call (.c (Value.func (.func 88) #[] #[])) [(.t 23), (.t 25)])⟩ ::
⟨(some 20), none, (.op (.mv (.t 26)))⟩ ::
⟨(some 27), none, (.op (.extract (.t 20) 0))⟩ ::
⟨(some 28), none, (.op (.extract (.t 20) 1))⟩ ::
⟨(some 7), none, (.op (.alloc [Value.int .i64 0] 3))⟩ ::
⟨none, none, (.op (.store 1 (.t 7) (.t 27)))⟩ ::
⟨(some 8), none, (.op (.mv (.t 28)))⟩ :: [])) (.seq (.dreg (
    ⟨(some 29), none, (.op (.faddr 0 (.t 2)))⟩ ::
⟨(some 30), none, (.op (.faddr 0 (.t 29)))⟩ ::
⟨(some 31), none, (.op (.load1 (.t 30)))⟩ ::
⟨(some 32), none, (.op (.load1 (.t 5)))⟩ ::
⟨(some 33), none, (.op (.int .add (.t 32) (.c (Value.int .i64 1))))⟩ ::
⟨(some 34), none, (.op (.ixsl 1 (.t 31) (.t 33)))⟩ ::
⟨(some 35), none, (.op (.load1 (.t 34)))⟩ ::
⟨(some 36), none, (.op (.faddr 0 (.t 3)))⟩ ::
⟨(some 37), none, (.op (.load1 (.t 36)))⟩ ::
⟨(some 38), none, (.op (.int .sub (.t 35) (.t 37)))⟩ ::
⟨(some 39), none, (.op (.faddr 0 (.t 3)))⟩ ::
⟨(some 40), none, (.op (.load1 (.t 39)))⟩ ::
⟨(some 41), none, (.op (.faddr 0 (.t 2)))⟩ ::
⟨(some 42), none, (.op (.faddr 0 (.t 41)))⟩ ::
⟨(some 43), none, (.op (.load1 (.t 42)))⟩ ::
⟨(some 44), none, (.op (.load1 (.t 5)))⟩ ::
⟨(some 45), none, (.op (.ixsl 1 (.t 43) (.t 44)))⟩ ::
⟨(some 46), none, (.op (.load1 (.t 45)))⟩ ::
⟨(some 47), none, (.op (.int .sub (.t 40) (.t 46)))⟩ ::
⟨(some 48), none, (.op (.build [Value.int .i64 0, Value.int .i64 0] [(0, 1, (.t 38)), (1, 1, (.t 47))]))⟩ ::
⟨(some 9), none, (.op (.alloc [Value.int .i64 0, Value.int .i64 0] 136))⟩ ::
⟨none, none, (.op (.store 2 (.t 9) (.t 48)))⟩ :: []) []) (.seq (.dreg (
    ⟨(some 49), none, (.op (.faddr 0 (.t 2)))⟩ ::
⟨(some 50), none, (.op (.faddr 1 (.t 49)))⟩ ::
⟨(some 51), none, (.op (.load1 (.t 50)))⟩ ::
⟨(some 52), none, (.op (.load1 (.t 7)))⟩ ::
⟨(some 53), none, (.op (.int .add (.t 52) (.c (Value.int .i64 1))))⟩ ::
⟨(some 54), none, (.op (.ixsl 1 (.t 51) (.t 53)))⟩ ::
⟨(some 55), none, (.op (.load1 (.t 54)))⟩ ::
⟨(some 56), none, (.op (.faddr 1 (.t 3)))⟩ ::
⟨(some 57), none, (.op (.load1 (.t 56)))⟩ ::
⟨(some 58), none, (.op (.int .sub (.t 55) (.t 57)))⟩ ::
⟨(some 59), none, (.op (.faddr 1 (.t 3)))⟩ ::
⟨(some 60), none, (.op (.load1 (.t 59)))⟩ ::
⟨(some 61), none, (.op (.faddr 0 (.t 2)))⟩ ::
⟨(some 62), none, (.op (.faddr 1 (.t 61)))⟩ ::
⟨(some 63), none, (.op (.load1 (.t 62)))⟩ ::
⟨(some 64), none, (.op (.load1 (.t 7)))⟩ ::
⟨(some 65), none, (.op (.ixsl 1 (.t 63) (.t 64)))⟩ ::
⟨(some 66), none, (.op (.load1 (.t 65)))⟩ ::
⟨(some 67), none, (.op (.int .sub (.t 60) (.t 66)))⟩ ::
⟨(some 68), none, (.op (.build [Value.int .i64 0, Value.int .i64 0] [(0, 1, (.t 58)), (1, 1, (.t 67))]))⟩ ::
⟨(some 10), none, (.op (.alloc [Value.int .i64 0, Value.int .i64 0] 136))⟩ ::
⟨none, none, (.op (.store 2 (.t 10) (.t 68)))⟩ :: []) []) (.seq (.reg (
    ⟨(some 69), none, (.op (.mkfn (Fn.func 99) [] [(.t 5), (.t 7), (.t 9), (.t 10)]))⟩ ::
⟨(some 4), none, (.op (.mv (.t 69)))⟩ :: [])) .ret))))))
def r89 : List ResultVar := [.tmp 4]
set_option maxRecDepth 1000000 in
set_option maxHeartbeats 4000000 in
theorem fun89 : Fun Try.prog 89 70 2 a89 r89 :=
  ⟨rfl, Try.f89, _, rfl, rfl, rfl, by decide, rfl, rfl, rfl⟩
/-- (tumblehome/chart.sheet).fraction -/
noncomputable def a90 : ACode := (.seq (.reg (
    ⟨(some 3), none, (.op (.box (.t 0) 84))⟩ ::
⟨(some 6), none, (.op (.alloc [Value.int .i64 0, Value.int .i64 0] 32))⟩ :: [])) (.seq (.reg (
    ⟨(some 9), none, (.op (.mv (.t 1)))⟩ ::
⟨(some 10), none, (.op (.mv (.t 1)))⟩ ::
⟨(some 11), none, (.op (.neg (.t 10)))⟩ ::
⟨(some 12), none, (.op (.mnmx true (.t 9) (.t 11)))⟩ ::
⟨(some 13), none, (.op (.mv (.t 2)))⟩ ::
⟨(some 7), none, (.op (.mv (.t 12)))⟩ ::
⟨(some 8), none, (.op (.mv (.t 13)))⟩ :: [])) (.seq (.block 0 (.loop (.seq (.seq (.reg (
    ⟨(some 14), none, (.op (.mv (.t 8)))⟩ ::
⟨(some 15), none, (.op (.int .neq (.t 14) (.c (Value.int .i64 0))))⟩ :: [])) (.cond (.t 15) .skip (.exit 0))) (.block 1 (.dreg (
    ⟨(some 16), none, (.op (.mv (.t 8)))⟩ ::
⟨(some 17), none, (.op (.mv (.t 7)))⟩ ::
⟨(some 18), none, (.op (.mv (.t 8)))⟩ ::
⟨(some 19), none, (.op (.idiv false (.t 17) (.t 18)))⟩ ::
⟨(some 7), none, (.op (.mv (.t 16)))⟩ ::
⟨(some 8), none, (.op (.mv (.t 19)))⟩ :: []) []))))) (.seq (.dreg (
    ⟨(some 20), none, (.op (.mv (.t 1)))⟩ ::
⟨(some 21), none, (.op (.mv (.t 7)))⟩ ::
⟨(some 22), none, (.op (.idiv true (.t 20) (.t 21)))⟩ ::
⟨(some 23), none, (.op (.mv (.t 2)))⟩ ::
⟨(some 24), none, (.op (.mv (.t 7)))⟩ ::
⟨(some 25), none, (.op (.idiv true (.t 23) (.t 24)))⟩ ::
⟨(some 26), none, (.op (.build [Value.int .i64 0, Value.int .i64 0] [(0, 1, (.t 22)), (1, 1, (.t 25))]))⟩ ::
⟨none, none, (.op (.store 2 (.t 6) (.t 26)))⟩ :: []) []) .ret))))
def r90 : List ResultVar := [.cell 6 32]
set_option maxRecDepth 1000000 in
set_option maxHeartbeats 4000000 in
theorem fun90 : Fun Try.prog 90 27 3 a90 r90 :=
  ⟨rfl, Try.f90, _, rfl, rfl, rfl, by decide, rfl, rfl, rfl⟩
/-- (tumblehome/chart.sheet).whole -/
noncomputable def a91A0 : ACode := (.reg (
    ⟨(some 7), none, (.op (.mv (.t 12)))⟩ :: []))
noncomputable def a91B0 : ACode := (.block 1 (.reg (
    ⟨(some 13), none, (.op (.load1 (.t 5)))⟩ ::
⟨(some 14), none, (.op (.mv (.t 7)))⟩ ::
⟨(some 15), none, (.op (.int .add (.t 13) (.t 14)))⟩ ::
⟨none, none, (.op (.store 1 (.t 5) (.t 15)))⟩ :: [])))
set_option maxRecDepth 1000000 in
set_option maxHeartbeats 4000000 in
theorem c91A0 : cCode Try.prog 17 false (rfAt Try.f91 0).1 = some a91A0 := rfl
set_option maxRecDepth 1000000 in
set_option maxHeartbeats 4000000 in
theorem c91B0 : cCode Try.prog 17 false (rfAt Try.f91 0).2 = some a91B0 := rfl
noncomputable def a91 : ACode := (.seq (.reg (
    ⟨(some 2), none, (.op (.box (.t 0) 84))⟩ ::
⟨(some 3), none, (.op (.box (.t 1) 28))⟩ ::
⟨(some 4), none, (.op (.mv (.c (Value.int .i64 0))))⟩ :: [])) (.seq (.reg (
    ⟨(some 5), none, (.op (.alloc [Value.int .i64 0] 2))⟩ ::
⟨none, none, (.op (.store 1 (.t 5) (.c (Value.int .i64 0))))⟩ :: [])) (.seq (.seq (.reg (
    ⟨(some 8), none, (.op (.loadn 3 (.t 2)))⟩ ::
⟨(some 9), none, (.op (.loadn 2 (.t 3)))⟩ ::
⟨(some 10), none, (.call (.c (Value.func (.func 89) #[] #[])) [(.t 8), (.t 9)])⟩ :: [])) (.block 0 (.range (.t 10) [11, 12] 17 (rfAt Try.f91 0).1 (rfAt Try.f91 0).2 a91A0 a91B0))) (.seq (.reg (
    ⟨(some 16), none, (.op (.load1 (.t 5)))⟩ ::
⟨(some 4), none, (.op (.mv (.t 16)))⟩ :: [])) .ret))))
def r91 : List ResultVar := [.tmp 4]
set_option maxRecDepth 1000000 in
set_option maxHeartbeats 4000000 in
theorem fun91 : Fun Try.prog 91 17 2 a91 r91 :=
  ⟨rfl, Try.f91, _, rfl, rfl, rfl, by decide, rfl, rfl, rfl⟩
/-- slices.IndexFunc[[][]tumblehome/api.Range,[]tumblehome/api.Range] -/
noncomputable def a92 : ACode := (.seq (.reg (
    ⟨(some 4), none, (.op (.mv (.c (Value.int .i64 0))))⟩ :: [])) (.seq (.seq (.reg (
    ⟨(some 6), none, (.op (.mv (.t 0)))⟩ ::
⟨(some 7), none, (.op (.len (.t 6)))⟩ ::
⟨(some 8), none, (.op (.mv (.c (Value.int .i64 0))))⟩ :: [])) (.block 0 (.loop (.seq (.reg (
    ⟨(some 9), none, (.op (.int .lss (.t 8) (.t 7)))⟩ :: [])) (.seq (.cond (.t 9) .skip (.exit 0)) (.seq (.block 1 (.seq (.reg (
    ⟨(some 10), none, (.op (.mv (.t 8)))⟩ ::
⟨(some 5), none, (.op (.mv (.t 10)))⟩ :: [])) (.seq (.reg (
    ⟨(some 11), none, (.op (.mv (.t 1)))⟩ ::
⟨(some 12), none, (.op (.mv (.t 0)))⟩ ::
⟨(some 13), none, (.op (.mv (.t 5)))⟩ ::
⟨(some 14), none, (.op (.ixsl 1 (.t 12) (.t 13)))⟩ ::
⟨(some 15), none, (.op (.load1 (.t 14)))⟩ ::
⟨(some 16), none, (.call (.t 11) [(.t 15)])⟩ :: [])) (.cond (.t 16) (.seq (.reg (
    ⟨(some 17), none, (.op (.mv (.t 5)))⟩ ::
⟨(some 4), none, (.op (.mv (.t 17)))⟩ :: [])) .ret) .skip)))) (.reg (
    ⟨(some 18), none, (.op (.int .add (.t 8) (.c (Value.int .i64 1))))⟩ ::
⟨(some 8), none, (.op (.mv (.t 18)))⟩ :: [])))))))) (.seq (.reg (
    ⟨(some 4), none, (.op (.mv (.c (Value.int .i64 (-1)))))⟩ :: [])) .ret)))
def r92 : List ResultVar := [.tmp 4]
set_option maxRecDepth 1000000 in
set_option maxHeartbeats 4000000 in
theorem fun92 : Fun Try.prog 92 19 2 a92 r92 :=
  ⟨rfl, Try.f92, _, rfl, rfl, rfl, by decide, rfl, rfl, rfl⟩
/-- slices.ContainsFunc[[]int64,int64] -/
noncomputable def a93 : ACode := (.seq (.reg (
    ⟨(some 4), none, (.op (.mv (.c (Value.bool false))))⟩ :: [])) (.seq (.reg (
    ⟨(some 5), none, (.op (.mv (.t 0)))⟩ ::
⟨(some 6), none, (.op (.mv (.t 1)))⟩ ::
⟨(some 7), none, (.call (.c (Value.func (.func 100) #[] #[])) [(.t 5), (.t 6)])⟩ ::
⟨(some 8), none, (.op (.int .geq (.t 7) (.c (Value.int .i64 0))))⟩ ::
⟨(some 4), none, (.op (.mv (.t 8)))⟩ :: [])) .ret))
def r93 : List ResultVar := [.tmp 4]
set_option maxRecDepth 1000000 in
set_option maxHeartbeats 4000000 in
theorem fun93 : Fun Try.prog 93 9 2 a93 r93 :=
  ⟨rfl, Try.f93, _, rfl, rfl, rfl, by decide, rfl, rfl, rfl⟩
/-- tumblehome/chart.within$1 -/
noncomputable def a94 : ACode := (.seq (.reg (
    ⟨(some 3), none, (.op (.mv (.c (Value.bool false))))⟩ :: [])) (.seq (.reg (
    ⟨(some 4), none, (.op (.mv (.t 0)))⟩ ::
⟨(some 5), none, (.op (.int .lss (.t 4) (.c (Value.int .i64 0))))⟩ ::
⟨(some 6), none, (.op (.mv (.t 5)))⟩ ::
⟨(some 7), (some (6, false)), (.op (.mv (.t 0)))⟩ ::
⟨(some 8), (some (6, false)), (.op (.load1 (.t 1)))⟩ ::
⟨(some 9), (some (6, false)), (.op (.int .gtr (.t 7) (.t 8)))⟩ ::
⟨(some 10), none, (.op (.pick (.t 6) (.c (Value.bool true)) (.t 9)))⟩ ::
⟨(some 3), none, (.op (.mv (.t 10)))⟩ :: [])) .ret))
def r94 : List ResultVar := [.tmp 3]
set_option maxRecDepth 1000000 in
set_option maxHeartbeats 4000000 in
theorem fun94 : Fun Try.prog 94 11 2 a94 r94 :=
  ⟨rfl, Try.f94, _, rfl, rfl, rfl, by decide, rfl, rfl, rfl⟩
/-- cmp.Less[int64] -/
noncomputable def a95 : ACode := (.seq (.reg (
    ⟨(some 4), none, (.op (.mv (.c (Value.bool false))))⟩ :: [])) (.seq (.reg (
    ⟨(some 5), none, (.op (.mv (.t 0)))⟩ ::
⟨(some 6), none, (.call (.c (Value.func (.func 101) #[] #[])) [(.t 5)])⟩ ::
⟨(some 7), none, (.op (.mv (.t 6)))⟩ ::
⟨(some 8), (some (7, true)), (.op (.mv (.t 1)))⟩ ::
⟨(some 9), (some (7, true)), (.call (.c (Value.func (.func 101) #[] #[])) [(.t 8)])⟩ ::
⟨(some 10), (some (7, true)), (.op (.not (.t 9)))⟩ ::
⟨(some 11), none, (.op (.pick (.t 7) (.t 10) (.c (Value.bool false))))⟩ ::
⟨(some 12), none, (.op (.mv (.t 11)))⟩ ::
⟨(some 13), (some (12, false)), (.op (.mv (.t 0)))⟩ ::
⟨(some 14), (some (12, false)), (.op (.mv (.t 1)))⟩ ::
⟨(some 15), (some (12, false)), (.op (.int .lss (.t 13) (.t 14)))⟩ ::
⟨(some 16), none, (.op (.pick (.t 12) (.c (Value.bool true)) (.t 15)))⟩ ::
⟨(some 4), none, (.op (.mv (.t 16)))⟩ :: [])) .ret))
def r95 : List ResultVar := [.tmp 4]
set_option maxRecDepth 1000000 in
set_option maxHeartbeats 4000000 in
theorem fun95 : Fun Try.prog 95 17 2 a95 r95 :=
  ⟨rfl, Try.f95, _, rfl, rfl, rfl, by decide, rfl, rfl, rfl⟩
/-- slices.IndexFunc[[][]int64,[]int64] -/
noncomputable def a96 : ACode := (.seq (.reg (
    ⟨(some 4), none, (.op (.mv (.c (Value.int .i64 0))))⟩ :: [])) (.seq (.seq (.reg (
    ⟨(some 6), none, (.op (.mv (.t 0)))⟩ ::
⟨(some 7), none, (.op (.len (.t 6)))⟩ ::
⟨(some 8), none, (.op (.mv (.c (Value.int .i64 0))))⟩ :: [])) (.block 0 (.loop (.seq (.reg (
    ⟨(some 9), none, (.op (.int .lss (.t 8) (.t 7)))⟩ :: [])) (.seq (.cond (.t 9) .skip (.exit 0)) (.seq (.block 1 (.seq (.reg (
    ⟨(some 10), none, (.op (.mv (.t 8)))⟩ ::
⟨(some 5), none, (.op (.mv (.t 10)))⟩ :: [])) (.seq (.reg (
    ⟨(some 11), none, (.op (.mv (.t 1)))⟩ ::
⟨(some 12), none, (.op (.mv (.t 0)))⟩ ::
⟨(some 13), none, (.op (.mv (.t 5)))⟩ ::
⟨(some 14), none, (.op (.ixsl 1 (.t 12) (.t 13)))⟩ ::
⟨(some 15), none, (.op (.load1 (.t 14)))⟩ ::
⟨(some 16), none, (.call (.t 11) [(.t 15)])⟩ :: [])) (.cond (.t 16) (.seq (.reg (
    ⟨(some 17), none, (.op (.mv (.t 5)))⟩ ::
⟨(some 4), none, (.op (.mv (.t 17)))⟩ :: [])) .ret) .skip)))) (.reg (
    ⟨(some 18), none, (.op (.int .add (.t 8) (.c (Value.int .i64 1))))⟩ ::
⟨(some 8), none, (.op (.mv (.t 18)))⟩ :: [])))))))) (.seq (.reg (
    ⟨(some 4), none, (.op (.mv (.c (Value.int .i64 (-1)))))⟩ :: [])) .ret)))
def r96 : List ResultVar := [.tmp 4]
set_option maxRecDepth 1000000 in
set_option maxHeartbeats 4000000 in
theorem fun96 : Fun Try.prog 96 19 2 a96 r96 :=
  ⟨rfl, Try.f96, _, rfl, rfl, rfl, by decide, rfl, rfl, rfl⟩
/-- slices.IndexFunc[[]tumblehome/api.ChartPoint,tumblehome/api.ChartPoint] -/
noncomputable def a97 : ACode := (.seq (.reg (
    ⟨(some 4), none, (.op (.mv (.c (Value.int .i64 0))))⟩ :: [])) (.seq (.seq (.reg (
    ⟨(some 6), none, (.op (.mv (.t 0)))⟩ ::
⟨(some 7), none, (.op (.len (.t 6)))⟩ ::
⟨(some 8), none, (.op (.mv (.c (Value.int .i64 0))))⟩ :: [])) (.block 0 (.loop (.seq (.reg (
    ⟨(some 9), none, (.op (.int .lss (.t 8) (.t 7)))⟩ :: [])) (.seq (.cond (.t 9) .skip (.exit 0)) (.seq (.block 1 (.seq (.reg (
    ⟨(some 10), none, (.op (.mv (.t 8)))⟩ ::
⟨(some 5), none, (.op (.mv (.t 10)))⟩ :: [])) (.seq (.reg (
    ⟨(some 11), none, (.op (.mv (.t 1)))⟩ ::
⟨(some 12), none, (.op (.mv (.t 0)))⟩ ::
⟨(some 13), none, (.op (.mv (.t 5)))⟩ ::
⟨(some 14), none, (.op (.ixsl 2 (.t 12) (.t 13)))⟩ ::
⟨(some 15), none, (.op (.loadn 2 (.t 14)))⟩ ::
⟨(some 16), none, (.call (.t 11) [(.t 15)])⟩ :: [])) (.cond (.t 16) (.seq (.reg (
    ⟨(some 17), none, (.op (.mv (.t 5)))⟩ ::
⟨(some 4), none, (.op (.mv (.t 17)))⟩ :: [])) .ret) .skip)))) (.reg (
    ⟨(some 18), none, (.op (.int .add (.t 8) (.c (Value.int .i64 1))))⟩ ::
⟨(some 8), none, (.op (.mv (.t 18)))⟩ :: [])))))))) (.seq (.reg (
    ⟨(some 4), none, (.op (.mv (.c (Value.int .i64 (-1)))))⟩ :: [])) .ret)))
def r97 : List ResultVar := [.tmp 4]
set_option maxRecDepth 1000000 in
set_option maxHeartbeats 4000000 in
theorem fun97 : Fun Try.prog 97 19 2 a97 r97 :=
  ⟨rfl, Try.f97, _, rfl, rfl, rfl, by decide, rfl, rfl, rfl⟩
/-- slices.BinarySearch[[]int64,int64] -/
noncomputable def a98 : ACode := (.seq (.reg (
    ⟨(some 4), none, (.op (.mv (.c (Value.int .i64 0))))⟩ ::
⟨(some 5), none, (.op (.mv (.c (Value.bool false))))⟩ :: [])) (.seq (.reg (
    ⟨(some 10), none, (.op (.mv (.t 0)))⟩ ::
⟨(some 11), none, (.op (.len (.t 10)))⟩ ::
⟨(some 6), none, (.op (.mv (.t 11)))⟩ :: [])) (.seq (.reg (
    ⟨(some 12), none, (.op (.mv (.t 6)))⟩ ::
⟨(some 7), none, (.op (.mv (.c (Value.int .i64 0))))⟩ ::
⟨(some 8), none, (.op (.mv (.t 12)))⟩ :: [])) (.seq (.block 0 (.loop (.seq (.seq (.reg (
    ⟨(some 13), none, (.op (.mv (.t 7)))⟩ ::
⟨(some 14), none, (.op (.mv (.t 8)))⟩ ::
⟨(some 15), none, (.op (.int .lss (.t 13) (.t 14)))⟩ :: [])) (.cond (.t 15) .skip (.exit 0))) (.block 1 (.seq (.reg (
    ⟨(some 16), none, (.op (.mv (.t 7)))⟩ ::
⟨(some 17), none, (.op (.mv (.t 8)))⟩ ::
⟨(some 18), none, (.op (.int .add (.t 16) (.t 17)))⟩ ::
⟨(some 19), none, (.op (.conv .u64 (.t 18)))⟩ ::
⟨(some 20), none, (.op (.pure (rawOp Try.f98 4 4)))⟩ ::
⟨(some 21), none, (.op (.conv .i64 (.t 20)))⟩ ::
⟨(some 9), none, (.op (.mv (.t 21)))⟩ :: [])) (.seq (.reg (
    ⟨(some 22), none, (.op (.mv (.t 0)))⟩ ::
⟨(some 23), none, (.op (.mv (.t 9)))⟩ ::
⟨(some 24), none, (.op (.ixsl 1 (.t 22) (.t 23)))⟩ ::
⟨(some 25), none, (.op (.load1 (.t 24)))⟩ ::
⟨(some 26), none, (.op (.mv (.t 1)))⟩ ::
⟨(some 27), none, (.call (.c (Value.func (.func 95) #[] #[])) [(.t 25), (.t 26)])⟩ :: [])) (.cond (.t 27) (.reg (
    ⟨(some 28), none, (.op (.mv (.t 9)))⟩ ::
⟨(some 29), none, (.op (.int .add (.t 28) (.c (Value.int .i64 1))))⟩ ::
⟨(some 7), none, (.op (.mv (.t 29)))⟩ :: [])) (.reg (
    ⟨(some 30), none, (.op (.mv (.t 9)))⟩ ::
⟨(some 8), none, (.op (.mv (.t 30)))⟩ :: []))))))))) (.seq (.reg (
    ⟨(some 31), none, (.op (.mv (.t 7)))⟩ ::
⟨(some 32), none, (.op (.mv (.t 7)))⟩ ::
⟨(some 33), none, (.op (.mv (.t 6)))⟩ ::
⟨(some 34), none, (.op (.int .lss (.t 32) (.t 33)))⟩ ::
⟨(some 35), none, (.op (.mv (.t 34)))⟩ ::
⟨(some 36), (some (35, true)), (.op (.mv (.t 0)))⟩ ::
⟨(some 37), (some (35, true)), (.op (.mv (.t 7)))⟩ ::
⟨(some 38), (some (35, true)), (.op (.ixsl 1 (.t 36) (.t 37)))⟩ ::
⟨(some 39), (some (35, true)), (.op (.load1 (.t 38)))⟩ ::
⟨(some 40), (some (35, true)), (.op (.mv (.t 1)))⟩ ::
⟨(some 41), (some (35, true)), (.op (.int .eql (.t 39) (.t 40)))⟩ ::
⟨(some 42), (some (35, true)), (.op (.mv (.t 41)))⟩ ::
⟨(some 43), (some (42, false)), (.op (.mv (.t 0)))⟩ ::
⟨(some 44), (some (42, false)), (.op (.mv (.t 7)))⟩ ::
⟨(some 45), (some (42, false)), (.op (.ixsl 1 (.t 43) (.t 44)))⟩ ::
⟨(some 46), (some (42, false)), (.op (.load1 (.t 45)))⟩ ::
⟨(some 47), (some (42, false)), (.call (.c (Value.func (.func 102) #[] #[])) [(.t 46)])⟩ ::
⟨(some 48), (some (42, false)), (.op (.mv (.t 47)))⟩ ::
⟨(some 49), (some (48, true)), (.op (.mv (.t 1)))⟩ ::
⟨(some 50), (some (48, true)), (.call (.c (Value.func (.func 102) #[] #[])) [(.t 49)])⟩ ::
⟨(some 51), (some (42, false)), (.op (.pick (.t 48) (.t 50) (.c (Value.bool false))))⟩ ::
⟨(some 52), (some (35, true)), (.op (.pick (.t 42) (.c (Value.bool true)) (.t 51)))⟩ ::
⟨(some 53), none, (.op (.pick (.t 35) (.t 52) (.c (Value.bool false))))⟩ ::
⟨(some 4), none, (.op (.mv (.t 31)))⟩ ::
⟨(some 5), none, (.op (.mv (.t 53)))⟩ :: [])) .ret)))))
def r98 : List ResultVar := [.tmp 4, .tmp 5]
set_option maxRecDepth 1000000 in
set_option maxHeartbeats 4000000 in
theorem fun98 : Fun Try.prog 98 54 2 a98 r98 :=
  ⟨rfl, Try.f98, _, rfl, rfl, rfl, by decide, rfl, rfl, rfl⟩
/-- (tumblehome/chart.sheet).corners$1 -/
noncomputable def a99 : ACode := (.seq (.reg (
    ⟨(some 8), none, (.op (.mv (.c (Value.int .i64 0))))⟩ :: [])) (.block 0 (.loop (.seq (.reg (
    ⟨(some 9), none, (.op (.int .lss (.t 8) (.c (Value.int .i64 2))))⟩ :: [])) (.seq (.cond (.t 9) .skip (.exit 0)) (.seq (.block 1 (.seq (.reg (
    ⟨(some 10), none, (.op (.mv (.t 8)))⟩ ::
⟨(some 6), none, (.op (.mv (.t 10)))⟩ :: [])) (.seq (.reg (
    ⟨(some 11), none, (.op (.mv (.c (Value.int .i64 0))))⟩ :: [])) (.block 2 (.loop (.seq (.reg (
    ⟨(some 12), none, (.op (.int .lss (.t 11) (.c (Value.int .i64 2))))⟩ :: [])) (.seq (.cond (.t 12) .skip (.exit 2)) (.seq (.block 3 (.seq (.reg (
    ⟨(some 13), none, (.op (.mv (.t 11)))⟩ ::
⟨(some 7), none, (.op (.mv (.t 13)))⟩ :: [])) (.seq (.seq (.dreg (
    ⟨(some 14), none, (.op (.mv (.t 0)))⟩ ::
⟨(some 15), none, (.op (.load1 (.t 1)))⟩ ::
⟨(some 16), none, (.op (.mv (.t 6)))⟩ ::
⟨(some 17), none, (.op (.int .add (.t 15) (.t 16)))⟩ ::
⟨(some 18), none, (.op (.load1 (.t 2)))⟩ ::
⟨(some 19), none, (.op (.mv (.t 7)))⟩ ::
⟨(some 20), none, (.op (.int .add (.t 18) (.t 19)))⟩ ::
⟨(some 21), none, (.op (.build [Value.int .i64 0, Value.int .i64 0] [(0, 1, (.t 17)), (1, 1, (.t 20))]))⟩ ::
⟨(some 22), none, (.op (.mv (.t 6)))⟩ ::
⟨(some 23), none, (.op (.ixarr 2 1 (.t 3) (.t 22)))⟩ ::
⟨(some 24), none, (.op (.load1 (.t 23)))⟩ ::
⟨(some 25), none, (.op (.mv (.t 7)))⟩ ::
⟨(some 26), none, (.op (.ixarr 2 1 (.t 4) (.t 25)))⟩ ::
⟨(some 27), none, (.op (.load1 (.t 26)))⟩ ::
⟨(some 28), none, (.op (.int .mul (.t 24) (.t 27)))⟩ :: []) []) (.reg (
    ⟨(some 29), none, (.call (.t 14) [(.t 21), (.t 28)])⟩ ::
⟨(some 30), none, (.op (.not (.t 29)))⟩ :: []))) (.cond (.t 30) .ret .skip)))) (.reg (
    ⟨(some 31), none, (.op (.int .add (.t 11) (.c (Value.int .i64 1))))⟩ ::
⟨(some 11), none, (.op (.mv (.t 31)))⟩ :: [])))))))))) (.reg (
    ⟨(some 32), none, (.op (.int .add (.t 8) (.c (Value.int .i64 1))))⟩ ::
⟨(some 8), none, (.op (.mv (.t 32)))⟩ :: []))))))))
def r99 : List ResultVar := []
set_option maxRecDepth 1000000 in
set_option maxHeartbeats 4000000 in
theorem fun99 : Fun Try.prog 99 33 5 a99 r99 :=
  ⟨rfl, Try.f99, _, rfl, rfl, rfl, by decide, rfl, rfl, rfl⟩
/-- slices.IndexFunc[[]int64,int64] -/
noncomputable def a100 : ACode := (.seq (.reg (
    ⟨(some 4), none, (.op (.mv (.c (Value.int .i64 0))))⟩ :: [])) (.seq (.seq (.reg (
    ⟨(some 6), none, (.op (.mv (.t 0)))⟩ ::
⟨(some 7), none, (.op (.len (.t 6)))⟩ ::
⟨(some 8), none, (.op (.mv (.c (Value.int .i64 0))))⟩ :: [])) (.block 0 (.loop (.seq (.reg (
    ⟨(some 9), none, (.op (.int .lss (.t 8) (.t 7)))⟩ :: [])) (.seq (.cond (.t 9) .skip (.exit 0)) (.seq (.block 1 (.seq (.reg (
    ⟨(some 10), none, (.op (.mv (.t 8)))⟩ ::
⟨(some 5), none, (.op (.mv (.t 10)))⟩ :: [])) (.seq (.reg (
    ⟨(some 11), none, (.op (.mv (.t 1)))⟩ ::
⟨(some 12), none, (.op (.mv (.t 0)))⟩ ::
⟨(some 13), none, (.op (.mv (.t 5)))⟩ ::
⟨(some 14), none, (.op (.ixsl 1 (.t 12) (.t 13)))⟩ ::
⟨(some 15), none, (.op (.load1 (.t 14)))⟩ ::
⟨(some 16), none, (.call (.t 11) [(.t 15)])⟩ :: [])) (.cond (.t 16) (.seq (.reg (
    ⟨(some 17), none, (.op (.mv (.t 5)))⟩ ::
⟨(some 4), none, (.op (.mv (.t 17)))⟩ :: [])) .ret) .skip)))) (.reg (
    ⟨(some 18), none, (.op (.int .add (.t 8) (.c (Value.int .i64 1))))⟩ ::
⟨(some 8), none, (.op (.mv (.t 18)))⟩ :: [])))))))) (.seq (.reg (
    ⟨(some 4), none, (.op (.mv (.c (Value.int .i64 (-1)))))⟩ :: [])) .ret)))
def r100 : List ResultVar := [.tmp 4]
set_option maxRecDepth 1000000 in
set_option maxHeartbeats 4000000 in
theorem fun100 : Fun Try.prog 100 19 2 a100 r100 :=
  ⟨rfl, Try.f100, _, rfl, rfl, rfl, by decide, rfl, rfl, rfl⟩
/-- cmp.isNaN[int64] -/
noncomputable def a101 : ACode := (.seq (.reg (
    ⟨(some 2), none, (.op (.mv (.c (Value.bool false))))⟩ :: [])) (.seq (.reg (
    ⟨(some 3), none, (.op (.mv (.t 0)))⟩ ::
⟨(some 4), none, (.op (.mv (.t 0)))⟩ ::
⟨(some 5), none, (.op (.int .neq (.t 3) (.t 4)))⟩ ::
⟨(some 2), none, (.op (.mv (.t 5)))⟩ :: [])) .ret))
def r101 : List ResultVar := [.tmp 2]
set_option maxRecDepth 1000000 in
set_option maxHeartbeats 4000000 in
theorem fun101 : Fun Try.prog 101 6 1 a101 r101 :=
  ⟨rfl, Try.f101, _, rfl, rfl, rfl, by decide, rfl, rfl, rfl⟩
/-- slices.isNaN[int64] -/
noncomputable def a102 : ACode := (.seq (.reg (
    ⟨(some 2), none, (.op (.mv (.c (Value.bool false))))⟩ :: [])) (.seq (.reg (
    ⟨(some 3), none, (.op (.mv (.t 0)))⟩ ::
⟨(some 4), none, (.op (.mv (.t 0)))⟩ ::
⟨(some 5), none, (.op (.int .neq (.t 3) (.t 4)))⟩ ::
⟨(some 2), none, (.op (.mv (.t 5)))⟩ :: [])) .ret))
def r102 : List ResultVar := [.tmp 2]
set_option maxRecDepth 1000000 in
set_option maxHeartbeats 4000000 in
theorem fun102 : Fun Try.prog 102 6 1 a102 r102 :=
  ⟨rfl, Try.f102, _, rfl, rfl, rfl, by decide, rfl, rfl, rfl⟩
end AE.Try
