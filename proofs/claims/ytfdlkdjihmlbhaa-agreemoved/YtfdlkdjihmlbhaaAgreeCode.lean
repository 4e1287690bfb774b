/- Made by gen3.py: the code of the functions, compiled for the evaluator; each is that of the program, by evaluation. -/
import Derived.Test.YtfdlkdjihmlbhaaProg
import Derived.Test.YtfdlkdjihmlbhaaAEtwo
set_option linter.unusedVariables false
set_option linter.unusedSimpArgs false
set_option linter.unusedSectionVars false
namespace AE.Try
open Go AE Go.Proofs
/-- tumblehome/tumblehomelaw09.AgreeMoved -/
noncomputable def a5 : ACode := (.seq (.reg (
    ⟨(some 4), none, (.op (.box (.t 0) 26))⟩ ::
⟨(some 7), none, (.op (.box (.t 3) 30))⟩ ::
⟨(some 8), none, (.op (.mv (.c (Value.bool false))))⟩ :: [])) (.seq (.seq (.reg (
    ⟨(some 26), none, (.op (.loadn 5 (.t 4)))⟩ ::
⟨(some 27), none, (.call (.c (Value.func (.func 9) #[] #[])) [(.t 26)])⟩ ::
⟨(some 28), none, (.op (.not (.t 27)))⟩ :: [])) (.cond (.t 28) (.seq (.reg (
    ⟨(some 29), none, (.call (.c (Value.func (.func 10) #[] #[])) [])⟩ ::
⟨(some 8), none, (.op (.mv (.t 29)))⟩ :: [])) .ret) .skip)) (.seq (.dreg (
    ⟨(some 30), none, (.op (.ixarr 2 1 (.t 7) (.c (Value.int .i64 0))))⟩ ::
⟨(some 31), none, (.op (.load1 (.t 30)))⟩ ::
⟨(some 32), none, (.op (.conv .i64 (.t 31)))⟩ ::
⟨(some 33), none, (.op (.faddr 1 (.t 4)))⟩ ::
⟨(some 34), none, (.op (.load1 (.t 33)))⟩ ::
⟨(some 35), none, (.op (.idiv false (.t 32) (.t 34)))⟩ ::
⟨(some 36), none, (.op (.ixarr 2 1 (.t 7) (.c (Value.int .i64 1))))⟩ ::
⟨(some 37), none, (.op (.load1 (.t 36)))⟩ ::
⟨(some 38), none, (.op (.conv .i64 (.t 37)))⟩ ::
⟨(some 39), none, (.op (.faddr 1 (.t 4)))⟩ ::
⟨(some 40), none, (.op (.load1 (.t 39)))⟩ ::
⟨(some 41), none, (.op (.idiv false (.t 38) (.t 40)))⟩ ::
⟨(some 42), none, (.op (.mv (.t 1)))⟩ ::
⟨(some 43), none, (.op (.conv .i64 (.t 42)))⟩ ::
⟨(some 44), none, (.op (.faddr 1 (.t 4)))⟩ ::
⟨(some 45), none, (.op (.load1 (.t 44)))⟩ ::
⟨(some 46), none, (.op (.idiv false (.t 43) (.t 45)))⟩ ::
⟨(some 9), none, (.op (.mv (.t 35)))⟩ ::
⟨(some 10), none, (.op (.mv (.t 41)))⟩ ::
⟨(some 11), none, (.op (.mv (.t 46)))⟩ :: []) []) (.seq (.reg (
    ⟨(some 47), none, (.op (.faddr 0 (.t 4)))⟩ ::
⟨(some 48), none, (.op (.load1 (.t 47)))⟩ ::
⟨(some 49), none, (.op (.faddr 1 (.t 4)))⟩ ::
⟨(some 50), none, (.op (.load1 (.t 49)))⟩ ::
⟨(some 51), none, (.op (.faddr 2 (.t 4)))⟩ ::
⟨(some 52), none, (.op (.loadn 2 (.t 51)))⟩ ::
⟨(some 53), none, (.op (.build [Value.int .i64 0, Value.int .i64 0, Value.int .i64 0, Value.int .i64 0, Value.slice none 0 0] [(0, 1, (.t 48)), (1, 1, (.t 50)), (2, 2, (.t 52))]))⟩ ::
⟨(some 12), none, (.op (.alloc [Value.int .i64 0, Value.int .i64 0, Value.int .i64 0, Value.int .i64 0, Value.slice none 0 0] 26))⟩ ::
⟨none, none, (.op (.store 5 (.t 12) (.t 53)))⟩ :: [])) (.seq (.reg (
    ⟨(some 54), none, (.op (.faddr 0 (.t 4)))⟩ ::
⟨(some 55), none, (.op (.load1 (.t 54)))⟩ ::
⟨(some 56), none, (.op (.faddr 1 (.t 4)))⟩ ::
⟨(some 57), none, (.op (.load1 (.t 56)))⟩ ::
⟨(some 58), none, (.op (.faddr 2 (.t 4)))⟩ ::
⟨(some 59), none, (.op (.faddr 1 (.t 58)))⟩ ::
⟨(some 60), none, (.op (.load1 (.t 59)))⟩ ::
⟨(some 61), none, (.op (.neg (.t 60)))⟩ ::
⟨(some 62), none, (.op (.faddr 2 (.t 4)))⟩ ::
⟨(some 63), none, (.op (.faddr 0 (.t 62)))⟩ ::
⟨(some 64), none, (.op (.load1 (.t 63)))⟩ ::
⟨(some 65), none, (.op (.neg (.t 64)))⟩ ::
⟨(some 66), none, (.op (.build [Value.int .i64 0, Value.int .i64 0] [(0, 1, (.t 61)), (1, 1, (.t 65))]))⟩ ::
⟨(some 67), none, (.op (.build [Value.int .i64 0, Value.int .i64 0, Value.int .i64 0, Value.int .i64 0, Value.slice none 0 0] [(0, 1, (.t 55)), (1, 1, (.t 57)), (2, 2, (.t 66))]))⟩ ::
⟨(some 13), none, (.op (.alloc [Value.int .i64 0, Value.int .i64 0, Value.int .i64 0, Value.int .i64 0, Value.slice none 0 0] 26))⟩ ::
⟨none, none, (.op (.store 5 (.t 13) (.t 67)))⟩ :: [])) (.seq (.seq (.reg (
    ⟨(some 14), none, (.op (.mv (.c (Value.int .i64 0))))⟩ :: [])) (.block 0 (.loop (.seq (.seq (.reg (
    ⟨(some 68), none, (.op (.mv (.t 14)))⟩ ::
⟨(some 69), none, (.op (.faddr 4 (.t 4)))⟩ ::
⟨(some 70), none, (.op (.load1 (.t 69)))⟩ ::
⟨(some 71), none, (.op (.len (.t 70)))⟩ ::
⟨(some 72), none, (.op (.int .lss (.t 68) (.t 71)))⟩ :: [])) (.cond (.t 72) .skip (.exit 0))) (.seq (.block 1 (.seq (.dreg (
    ⟨(some 75), none, (.op (.faddr 4 (.t 4)))⟩ ::
⟨(some 76), none, (.op (.load1 (.t 75)))⟩ ::
⟨(some 77), none, (.op (.mv (.t 14)))⟩ ::
⟨(some 78), none, (.op (.ixsl 4 (.t 76) (.t 77)))⟩ ::
⟨(some 79), none, (.op (.loadn 4 (.t 78)))⟩ ::
⟨(some 80), none, (.op (.faddr 4 (.t 4)))⟩ ::
⟨(some 81), none, (.op (.load1 (.t 80)))⟩ ::
⟨(some 82), none, (.op (.mv (.t 14)))⟩ ::
⟨(some 83), none, (.op (.ixsl 4 (.t 81) (.t 82)))⟩ ::
⟨(some 84), none, (.op (.loadn 4 (.t 83)))⟩ ::
⟨(some 15), none, (.op (.alloc [Value.int .i64 0, Value.int .i64 0, Value.int .i64 0, Value.int .i64 0] 42))⟩ ::
⟨(some 16), none, (.op (.alloc [Value.int .i64 0, Value.int .i64 0, Value.int .i64 0, Value.int .i64 0] 42))⟩ ::
⟨none, none, (.op (.store 4 (.t 15) (.t 79)))⟩ ::
⟨none, none, (.op (.store 4 (.t 16) (.t 84)))⟩ :: []) [((.t 80), (.t 15)), ((.t 83), (.t 15))]) (.seq (.seq (.reg (
    ⟨(some 85), none, (.op (.faddr 1 (.t 15)))⟩ ::
⟨(some 86), none, (.op (.load1 (.t 85)))⟩ ::
⟨(some 87), none, (.op (.mv (.t 11)))⟩ ::
⟨(some 88), none, (.op (.int .eql (.t 86) (.t 87)))⟩ :: [])) (.cond (.t 88) (.reg (
    ⟨(some 89), none, (.op (.faddr 2 (.t 15)))⟩ ::
⟨(some 90), none, (.op (.faddr 0 (.t 89)))⟩ ::
⟨(some 91), none, (.op (.load1 (.t 90)))⟩ ::
⟨(some 92), none, (.op (.mv (.t 2)))⟩ ::
⟨(some 93), none, (.op (.conv .i64 (.t 92)))⟩ ::
⟨(some 94), none, (.op (.int .add (.t 91) (.t 93)))⟩ ::
⟨(some 95), none, (.op (.faddr 2 (.t 15)))⟩ ::
⟨(some 96), none, (.op (.faddr 1 (.t 95)))⟩ ::
⟨(some 97), none, (.op (.load1 (.t 96)))⟩ ::
⟨(some 98), none, (.op (.mv (.t 2)))⟩ ::
⟨(some 99), none, (.op (.conv .i64 (.t 98)))⟩ ::
⟨(some 100), none, (.op (.int .add (.t 97) (.t 99)))⟩ ::
⟨(some 101), none, (.op (.build [Value.int .i64 0, Value.int .i64 0] [(0, 1, (.t 94)), (1, 1, (.t 100))]))⟩ ::
⟨(some 102), none, (.op (.faddr 2 (.t 15)))⟩ ::
⟨none, none, (.op (.store 2 (.t 102) (.t 101)))⟩ :: [])) .skip)) (.seq (.reg (
    ⟨(some 103), none, (.op (.faddr 2 (.t 16)))⟩ ::
⟨(some 104), none, (.op (.faddr 1 (.t 103)))⟩ ::
⟨(some 105), none, (.op (.load1 (.t 104)))⟩ ::
⟨(some 106), none, (.op (.neg (.t 105)))⟩ ::
⟨(some 107), none, (.op (.faddr 2 (.t 16)))⟩ ::
⟨(some 108), none, (.op (.faddr 0 (.t 107)))⟩ ::
⟨(some 109), none, (.op (.load1 (.t 108)))⟩ ::
⟨(some 110), none, (.op (.neg (.t 109)))⟩ ::
⟨(some 111), none, (.op (.build [Value.int .i64 0, Value.int .i64 0] [(0, 1, (.t 106)), (1, 1, (.t 110))]))⟩ ::
⟨(some 112), none, (.op (.faddr 2 (.t 16)))⟩ ::
⟨none, none, (.op (.store 2 (.t 112) (.t 111)))⟩ :: [])) (.dreg (
    ⟨(some 113), none, (.op (.faddr 4 (.t 12)))⟩ ::
⟨(some 114), none, (.op (.load1 (.t 113)))⟩ ::
⟨(some 115), none, (.op (.loadn 4 (.t 15)))⟩ ::
⟨(some 116), none, (.op (.bslice [Value.int .i64 0, Value.int .i64 0, Value.int .i64 0, Value.int .i64 0] [(0, 4, (.t 115))] 1 42))⟩ ::
⟨(some 117), none, (.op (.append 42 4 32 (.t 114) (.t 116)))⟩ ::
⟨(some 118), none, (.op (.faddr 4 (.t 13)))⟩ ::
⟨(some 119), none, (.op (.load1 (.t 118)))⟩ ::
⟨(some 120), none, (.op (.loadn 4 (.t 16)))⟩ ::
⟨(some 121), none, (.op (.bslice [Value.int .i64 0, Value.int .i64 0, Value.int .i64 0, Value.int .i64 0] [(0, 4, (.t 120))] 1 42))⟩ ::
⟨(some 122), none, (.op (.append 42 4 32 (.t 119) (.t 121)))⟩ ::
⟨(some 123), none, (.op (.faddr 4 (.t 12)))⟩ ::
⟨none, none, (.op (.store 1 (.t 123) (.t 117)))⟩ ::
⟨(some 124), none, (.op (.faddr 4 (.t 13)))⟩ ::
⟨none, none, (.op (.store 1 (.t 124) (.t 122)))⟩ :: []) [((.t 114), (.t 118)), ((.t 114), (.t 16))]))))) (.reg (
    ⟨(some 73), none, (.op (.mv (.t 14)))⟩ ::
⟨(some 74), none, (.op (.int .add (.t 73) (.c (Value.int .i64 1))))⟩ ::
⟨(some 14), none, (.op (.mv (.t 74)))⟩ :: []))))))) (.seq (.reg (
    ⟨(some 126), none, (.op (.loadn 5 (.t 4)))⟩ ::
⟨(some 127), none, (.op (.mv (.t 9)))⟩ ::
⟨(some 128), none, (.call (.c (Value.func (.func 11) #[] #[])) [(.t 126), (.t 127)])⟩ ::
⟨(some 125), none, (.op (.mv (.t 128)))⟩ ::
⟨(some 129), none, (.op (.extract (.t 125) 0))⟩ ::
⟨(some 130), none, (.op (.extract (.t 125) 1))⟩ ::
⟨(some 17), none, (.op (.alloc [Value.int .i64 0, Value.int .i64 0] 23))⟩ ::
⟨none, none, (.op (.store 2 (.t 17) (.t 129)))⟩ ::
⟨(some 18), none, (.op (.mv (.t 130)))⟩ :: [])) (.seq (.reg (
    ⟨(some 132), none, (.op (.loadn 5 (.t 4)))⟩ ::
⟨(some 133), none, (.op (.mv (.t 9)))⟩ ::
⟨(some 134), none, (.op (.mv (.t 10)))⟩ ::
⟨(some 135), none, (.call (.c (Value.func (.func 13) #[] #[])) [(.t 132), (.t 133), (.t 134)])⟩ ::
⟨(some 131), none, (.op (.mv (.t 135)))⟩ ::
⟨(some 136), none, (.op (.extract (.t 131) 0))⟩ ::
⟨(some 137), none, (.op (.extract (.t 131) 1))⟩ ::
⟨(some 19), none, (.op (.alloc [Value.int .i64 0, Value.int .i64 0] 23))⟩ ::
⟨none, none, (.op (.store 2 (.t 19) (.t 136)))⟩ ::
⟨(some 20), none, (.op (.mv (.t 137)))⟩ :: [])) (.seq (.reg (
    ⟨(some 139), none, (.op (.loadn 5 (.t 13)))⟩ ::
⟨(some 140), none, (.op (.mv (.t 9)))⟩ ::
⟨(some 141), none, (.call (.c (Value.func (.func 11) #[] #[])) [(.t 139), (.t 140)])⟩ ::
⟨(some 138), none, (.op (.mv (.t 141)))⟩ ::
⟨(some 142), none, (.op (.extract (.t 138) 0))⟩ ::
⟨(some 143), none, (.op (.extract (.t 138) 1))⟩ ::
⟨(some 21), none, (.op (.alloc [Value.int .i64 0, Value.int .i64 0] 23))⟩ ::
⟨none, none, (.op (.store 2 (.t 21) (.t 142)))⟩ ::
⟨(some 22), none, (.op (.mv (.t 143)))⟩ :: [])) (.seq (.reg (
    ⟨(some 145), none, (.op (.loadn 5 (.t 13)))⟩ ::
⟨(some 146), none, (.op (.mv (.t 9)))⟩ ::
⟨(some 147), none, (.op (.mv (.t 10)))⟩ ::
⟨(some 148), none, (.call (.c (Value.func (.func 13) #[] #[])) [(.t 145), (.t 146), (.t 147)])⟩ ::
⟨(some 144), none, (.op (.mv (.t 148)))⟩ ::
⟨(some 149), none, (.op (.extract (.t 144) 0))⟩ ::
⟨(some 150), none, (.op (.extract (.t 144) 1))⟩ ::
⟨(some 23), none, (.op (.alloc [Value.int .i64 0, Value.int .i64 0] 23))⟩ ::
⟨none, none, (.op (.store 2 (.t 23) (.t 149)))⟩ ::
⟨(some 24), none, (.op (.mv (.t 150)))⟩ :: [])) (.seq (.seq (.reg (
    ⟨(some 151), none, (.op (.mv (.t 22)))⟩ ::
⟨(some 152), none, (.op (.mv (.t 18)))⟩ ::
⟨(some 153), none, (.op (.int .neq (.t 151) (.t 152)))⟩ ::
⟨(some 154), none, (.op (.mv (.t 153)))⟩ ::
⟨(some 155), (some (154, false)), (.op (.mv (.t 24)))⟩ ::
⟨(some 156), (some (154, false)), (.op (.mv (.t 20)))⟩ ::
⟨(some 157), (some (154, false)), (.op (.int .neq (.t 155) (.t 156)))⟩ ::
⟨(some 158), none, (.op (.pick (.t 154) (.c (Value.bool true)) (.t 157)))⟩ ::
⟨(some 159), none, (.op (.mv (.t 158)))⟩ ::
⟨(some 160), (some (159, false)), (.op (.mv (.t 18)))⟩ ::
⟨(some 161), (some (159, false)), (.op (.int .eql (.t 160) (.c (Value.int .i64 0))))⟩ ::
⟨(some 162), (some (159, false)), (.op (.mv (.t 161)))⟩ ::
⟨(some 163), (some (162, true)), (.op (.faddr 0 (.t 21)))⟩ ::
⟨(some 164), (some (162, true)), (.op (.load1 (.t 163)))⟩ ::
⟨(some 165), (some (162, true)), (.op (.faddr 1 (.t 17)))⟩ ::
⟨(some 166), (some (162, true)), (.op (.load1 (.t 165)))⟩ ::
⟨(some 167), (some (162, true)), (.op (.neg (.t 166)))⟩ ::
⟨(some 168), (some (162, true)), (.op (.int .neq (.t 164) (.t 167)))⟩ ::
⟨(some 169), (some (162, true)), (.op (.mv (.t 168)))⟩ ::
⟨(some 170), (some (169, false)), (.op (.faddr 1 (.t 21)))⟩ ::
⟨(some 171), (some (169, false)), (.op (.load1 (.t 170)))⟩ ::
⟨(some 172), (some (169, false)), (.op (.faddr 0 (.t 17)))⟩ ::
⟨(some 173), (some (169, false)), (.op (.load1 (.t 172)))⟩ ::
⟨(some 174), (some (169, false)), (.op (.neg (.t 173)))⟩ ::
⟨(some 175), (some (169, false)), (.op (.int .neq (.t 171) (.t 174)))⟩ ::
⟨(some 176), (some (162, true)), (.op (.pick (.t 169) (.c (Value.bool true)) (.t 175)))⟩ ::
⟨(some 177), (some (159, false)), (.op (.pick (.t 162) (.t 176) (.c (Value.bool false))))⟩ ::
⟨(some 178), none, (.op (.pick (.t 159) (.c (Value.bool true)) (.t 177)))⟩ ::
⟨(some 179), none, (.op (.mv (.t 178)))⟩ ::
⟨(some 180), (some (179, false)), (.op (.mv (.t 20)))⟩ ::
⟨(some 181), (some (179, false)), (.op (.int .eql (.t 180) (.c (Value.int .i64 0))))⟩ ::
⟨(some 182), (some (179, false)), (.op (.mv (.t 181)))⟩ ::
⟨(some 183), (some (182, true)), (.op (.faddr 0 (.t 23)))⟩ ::
⟨(some 184), (some (182, true)), (.op (.load1 (.t 183)))⟩ ::
⟨(some 185), (some (182, true)), (.op (.faddr 1 (.t 19)))⟩ ::
⟨(some 186), (some (182, true)), (.op (.load1 (.t 185)))⟩ ::
⟨(some 187), (some (182, true)), (.op (.neg (.t 186)))⟩ ::
⟨(some 188), (some (182, true)), (.op (.int .neq (.t 184) (.t 187)))⟩ ::
⟨(some 189), (some (182, true)), (.op (.mv (.t 188)))⟩ ::
⟨(some 190), (some (189, false)), (.op (.faddr 1 (.t 23)))⟩ ::
⟨(some 191), (some (189, false)), (.op (.load1 (.t 190)))⟩ ::
⟨(some 192), (some (189, false)), (.op (.faddr 0 (.t 19)))⟩ ::
⟨(some 193), (some (189, false)), (.op (.load1 (.t 192)))⟩ ::
⟨(some 194), (some (189, false)), (.op (.neg (.t 193)))⟩ ::
⟨(some 195), (some (189, false)), (.op (.int .neq (.t 191) (.t 194)))⟩ ::
⟨(some 196), (some (182, true)), (.op (.pick (.t 189) (.c (Value.bool true)) (.t 195)))⟩ ::
⟨(some 197), (some (179, false)), (.op (.pick (.t 182) (.t 196) (.c (Value.bool false))))⟩ ::
⟨(some 198), none, (.op (.pick (.t 179) (.c (Value.bool true)) (.t 197)))⟩ :: [])) (.cond (.t 198) (.seq (.reg (
    ⟨(some 8), none, (.op (.mv (.c (Value.bool false))))⟩ :: [])) .ret) .skip)) (.seq (.seq (.reg (
    ⟨(some 199), none, (.op (.loadn 5 (.t 12)))⟩ ::
⟨(some 200), none, (.call (.c (Value.func (.func 9) #[] #[])) [(.t 199)])⟩ ::
⟨(some 201), none, (.op (.not (.t 200)))⟩ :: [])) (.cond (.t 201) (.seq (.reg (
    ⟨(some 202), none, (.call (.c (Value.func (.func 10) #[] #[])) [])⟩ ::
⟨(some 8), none, (.op (.mv (.t 202)))⟩ :: [])) .ret) .skip)) (.seq (.reg (
    ⟨(some 25), none, (.op (.mv (.c (Value.int .i64 0))))⟩ :: [])) (.seq (.seq (.reg (
    ⟨(some 203), none, (.op (.mv (.t 9)))⟩ ::
⟨(some 204), none, (.op (.mv (.t 11)))⟩ ::
⟨(some 205), none, (.op (.int .eql (.t 203) (.t 204)))⟩ :: [])) (.cond (.t 205) (.reg (
    ⟨(some 206), none, (.op (.mv (.t 2)))⟩ ::
⟨(some 207), none, (.op (.conv .i64 (.t 206)))⟩ ::
⟨(some 25), none, (.op (.mv (.t 207)))⟩ :: [])) .skip)) (.seq (.reg (
    ⟨(some 209), none, (.op (.loadn 5 (.t 12)))⟩ ::
⟨(some 210), none, (.op (.mv (.t 9)))⟩ ::
⟨(some 211), none, (.call (.c (Value.func (.func 11) #[] #[])) [(.t 209), (.t 210)])⟩ ::
⟨(some 208), none, (.op (.mv (.t 211)))⟩ ::
⟨(some 212), none, (.op (.extract (.t 208) 0))⟩ ::
⟨(some 213), none, (.op (.extract (.t 208) 1))⟩ ::
⟨none, none, (.op (.store 2 (.t 21) (.t 212)))⟩ ::
⟨(some 22), none, (.op (.mv (.t 213)))⟩ :: [])) (.seq (.reg (
    ⟨(some 214), none, (.op (.mv (.t 22)))⟩ ::
⟨(some 215), none, (.op (.mv (.t 18)))⟩ ::
⟨(some 216), none, (.op (.int .eql (.t 214) (.t 215)))⟩ ::
⟨(some 217), none, (.op (.mv (.t 216)))⟩ ::
⟨(some 218), (some (217, true)), (.op (.mv (.t 18)))⟩ ::
⟨(some 219), (some (217, true)), (.op (.int .neq (.t 218) (.c (Value.int .i64 0))))⟩ ::
⟨(some 220), (some (217, true)), (.op (.mv (.t 219)))⟩ ::
⟨(some 221), (some (220, false)), (.op (.faddr 0 (.t 21)))⟩ ::
⟨(some 222), (some (220, false)), (.op (.load1 (.t 221)))⟩ ::
⟨(some 223), (some (220, false)), (.op (.faddr 0 (.t 17)))⟩ ::
⟨(some 224), (some (220, false)), (.op (.load1 (.t 223)))⟩ ::
⟨(some 225), (some (220, false)), (.op (.mv (.t 25)))⟩ ::
⟨(some 226), (some (220, false)), (.op (.int .add (.t 224) (.t 225)))⟩ ::
⟨(some 227), (some (220, false)), (.op (.int .eql (.t 222) (.t 226)))⟩ ::
⟨(some 228), (some (220, false)), (.op (.mv (.t 227)))⟩ ::
⟨(some 229), (some (228, true)), (.op (.faddr 1 (.t 21)))⟩ ::
⟨(some 230), (some (228, true)), (.op (.load1 (.t 229)))⟩ ::
⟨(some 231), (some (228, true)), (.op (.faddr 1 (.t 17)))⟩ ::
⟨(some 232), (some (228, true)), (.op (.load1 (.t 231)))⟩ ::
⟨(some 233), (some (228, true)), (.op (.mv (.t 25)))⟩ ::
⟨(some 234), (some (228, true)), (.op (.int .add (.t 232) (.t 233)))⟩ ::
⟨(some 235), (some (228, true)), (.op (.int .eql (.t 230) (.t 234)))⟩ ::
⟨(some 236), (some (220, false)), (.op (.pick (.t 228) (.t 235) (.c (Value.bool false))))⟩ ::
⟨(some 237), (some (217, true)), (.op (.pick (.t 220) (.c (Value.bool true)) (.t 236)))⟩ ::
⟨(some 238), none, (.op (.pick (.t 217) (.t 237) (.c (Value.bool false))))⟩ ::
⟨(some 239), none, (.op (.mv (.t 238)))⟩ ::
⟨(some 240), (some (239, true)), (.call (.c (Value.func (.func 10) #[] #[])) [])⟩ ::
⟨(some 241), none, (.op (.pick (.t 239) (.t 240) (.c (Value.bool false))))⟩ ::
⟨(some 8), none, (.op (.mv (.t 241)))⟩ :: [])) .ret))))))))))))))))
def r5 : List ResultVar := [.tmp 8]
set_option maxRecDepth 1000000 in
set_option maxHeartbeats 4000000 in
theorem fun5 : Fun Try.prog 5 242 4 a5 r5 :=
  ⟨rfl, Try.f5, _, rfl, rfl, rfl, by decide, rfl, rfl, rfl⟩
/-- tumblehome/tumblehomelaw09.fine -/
noncomputable def a9 : ACode := (.seq (.reg (
    ⟨(some 1), none, (.op (.box (.t 0) 26))⟩ ::
⟨(some 2), none, (.op (.mv (.c (Value.bool false))))⟩ :: [])) (.seq (.reg (
    ⟨(some 3), none, (.op (.loadn 5 (.t 1)))⟩ ::
⟨(some 4), none, (.call (.c (Value.func (.func 24) #[] #[])) [(.t 3)])⟩ ::
⟨(some 5), none, (.op (.not (.t 4)))⟩ ::
⟨(some 6), none, (.op (.mv (.t 5)))⟩ ::
⟨(some 7), (some (6, true)), (.op (.loadn 5 (.t 1)))⟩ ::
⟨(some 8), (some (6, true)), (.call (.c (Value.func (.func 25) #[] #[])) [(.t 7)])⟩ ::
⟨(some 9), (some (6, true)), (.op (.int .eql (.t 8) (.c (Value.int .i64 0))))⟩ ::
⟨(some 10), none, (.op (.pick (.t 6) (.t 9) (.c (Value.bool false))))⟩ ::
⟨(some 2), none, (.op (.mv (.t 10)))⟩ :: [])) .ret))
def r9 : List ResultVar := [.tmp 2]
set_option maxRecDepth 1000000 in
set_option maxHeartbeats 4000000 in
theorem fun9 : Fun Try.prog 9 11 1 a9 r9 :=
  ⟨rfl, Try.f9, _, rfl, rfl, rfl, by decide, rfl, rfl, rfl⟩
/-- tumblehome/tumblehomelaw09.Works -/
noncomputable def a10 : ACode := (.seq (.reg (
    ⟨(some 0), none, (.op (.mv (.c (Value.bool false))))⟩ :: [])) (.seq (.reg (
    ⟨(some 23), none, (.call (.c (Value.func (.func 20) #[] #[])) [])⟩ ::
⟨(some 24), none, (.call (.c (Value.func (.func 21) #[] #[])) [])⟩ ::
⟨(some 1), none, (.op (.alloc [Value.int .i64 0, Value.int .i64 0, Value.int .i64 0, Value.int .i64 0, Value.slice none 0 0] 26))⟩ ::
⟨(some 2), none, (.op (.alloc [Value.int .i64 0, Value.int .i64 0, Value.int .i64 0, Value.int .i64 0, Value.slice none 0 0] 26))⟩ ::
⟨none, none, (.op (.store 5 (.t 1) (.t 23)))⟩ ::
⟨none, none, (.op (.store 5 (.t 2) (.t 24)))⟩ :: [])) (.seq (.reg (
    ⟨(some 26), none, (.op (.loadn 5 (.t 1)))⟩ ::
⟨(some 27), none, (.call (.c (Value.func (.func 18) #[] #[])) [(.t 26)])⟩ ::
⟨(some 25), none, (.op (.mv (.t 27)))⟩ ::
⟨(some 28), none, (.op (.extract (.t 25) 0))⟩ ::
⟨(some 29), none, (.op (.extract (.t 25) 1))⟩ ::
⟨(some 3), none, (.op (.alloc [Value.slice none 0 0, Value.slice none 0 0] 29))⟩ ::
⟨none, none, (.op (.store 2 (.t 3) (.t 28)))⟩ ::
⟨(some 4), none, (.op (.mv (.t 29)))⟩ :: [])) (.seq (.reg (
    ⟨(some 31), none, (.op (.loadn 5 (.t 2)))⟩ ::
⟨(some 32), none, (.call (.c (Value.func (.func 18) #[] #[])) [(.t 31)])⟩ ::
⟨(some 30), none, (.op (.mv (.t 32)))⟩ ::
⟨(some 33), none, (.op (.extract (.t 30) 0))⟩ ::
⟨(some 34), none, (.op (.extract (.t 30) 1))⟩ ::
⟨(some 5), none, (.op (.alloc [Value.slice none 0 0, Value.slice none 0 0] 29))⟩ ::
⟨none, none, (.op (.store 2 (.t 5) (.t 33)))⟩ ::
⟨(some 6), none, (.op (.mv (.t 34)))⟩ :: [])) (.seq (.reg (
    ⟨(some 36), none, (.op (.loadn 5 (.t 1)))⟩ ::
⟨(some 37), none, (.call (.c (Value.func (.func 11) #[] #[])) [(.t 36), (.c (Value.int .i64 0))])⟩ ::
⟨(some 35), none, (.op (.mv (.t 37)))⟩ ::
⟨(some 38), none, (.op (.extract (.t 35) 0))⟩ ::
⟨(some 39), none, (.op (.extract (.t 35) 1))⟩ ::
⟨(some 7), none, (.op (.alloc [Value.int .i64 0, Value.int .i64 0] 23))⟩ ::
⟨none, none, (.op (.store 2 (.t 7) (.t 38)))⟩ ::
⟨(some 8), none, (.op (.mv (.t 39)))⟩ :: [])) (.seq (.reg (
    ⟨(some 41), none, (.op (.loadn 5 (.t 1)))⟩ ::
⟨(some 42), none, (.call (.c (Value.func (.func 11) #[] #[])) [(.t 41), (.c (Value.int .i64 1))])⟩ ::
⟨(some 40), none, (.op (.mv (.t 42)))⟩ ::
⟨(some 43), none, (.op (.extract (.t 40) 0))⟩ ::
⟨(some 44), none, (.op (.extract (.t 40) 1))⟩ ::
⟨(some 9), none, (.op (.alloc [Value.int .i64 0, Value.int .i64 0] 23))⟩ ::
⟨none, none, (.op (.store 2 (.t 9) (.t 43)))⟩ ::
⟨(some 10), none, (.op (.mv (.t 44)))⟩ :: [])) (.seq (.reg (
    ⟨(some 46), none, (.op (.loadn 5 (.t 1)))⟩ ::
⟨(some 47), none, (.call (.c (Value.func (.func 13) #[] #[])) [(.t 46), (.c (Value.int .i64 0)), (.c (Value.int .i64 1))])⟩ ::
⟨(some 45), none, (.op (.mv (.t 47)))⟩ ::
⟨(some 48), none, (.op (.extract (.t 45) 0))⟩ ::
⟨(some 49), none, (.op (.extract (.t 45) 1))⟩ ::
⟨(some 11), none, (.op (.alloc [Value.int .i64 0, Value.int .i64 0] 23))⟩ ::
⟨none, none, (.op (.store 2 (.t 11) (.t 48)))⟩ ::
⟨(some 12), none, (.op (.mv (.t 49)))⟩ :: [])) (.seq (.reg (
    ⟨(some 51), none, (.op (.loadn 5 (.t 2)))⟩ ::
⟨(some 52), none, (.op (.bslice [Value.int .i64 0, Value.int .i64 0, Value.int .i64 0, Value.int .i64 0, Value.int .i64 0] [(0, 1, (.c (Value.int .i64 1))), (1, 1, (.c (Value.int .i64 3))), (2, 1, (.c (Value.int .i64 2))), (3, 1, (.c (Value.int .i64 4))), (4, 1, (.c (Value.int .i64 1)))] 5 3))⟩ ::
⟨(some 53), none, (.call (.c (Value.func (.func 22) #[] #[])) [(.t 51), (.t 52)])⟩ ::
⟨(some 50), none, (.op (.mv (.t 53)))⟩ ::
⟨(some 54), none, (.op (.extract (.t 50) 0))⟩ ::
⟨(some 55), none, (.op (.extract (.t 50) 1))⟩ ::
⟨(some 13), none, (.op (.mv (.t 54)))⟩ ::
⟨(some 14), none, (.op (.mv (.t 55)))⟩ :: [])) (.seq (.reg (
    ⟨(some 57), none, (.op (.loadn 5 (.t 2)))⟩ ::
⟨(some 58), none, (.call (.c (Value.func (.func 23) #[] #[])) [(.t 57)])⟩ ::
⟨(some 56), none, (.op (.mv (.t 58)))⟩ ::
⟨(some 59), none, (.op (.extract (.t 56) 0))⟩ ::
⟨(some 60), none, (.op (.extract (.t 56) 1))⟩ ::
⟨(some 15), none, (.op (.mv (.t 59)))⟩ ::
⟨(some 16), none, (.op (.mv (.t 60)))⟩ :: [])) (.seq (.reg (
    ⟨(some 62), none, (.op (.loadn 5 (.t 2)))⟩ ::
⟨(some 63), none, (.call (.c (Value.func (.func 17) #[] #[])) [(.t 62)])⟩ ::
⟨(some 61), none, (.op (.mv (.t 63)))⟩ ::
⟨(some 64), none, (.op (.extract (.t 61) 0))⟩ ::
⟨(some 65), none, (.op (.extract (.t 61) 1))⟩ ::
⟨(some 17), none, (.op (.mv (.t 64)))⟩ ::
⟨(some 18), none, (.op (.mv (.t 65)))⟩ :: [])) (.seq (.reg (
    ⟨(some 67), none, (.op (.loadn 5 (.t 1)))⟩ ::
⟨(some 68), none, (.call (.c (Value.func (.func 12) #[] #[])) [(.t 67), (.c (Value.int .i64 1)), (.c (Value.bool true))])⟩ ::
⟨(some 66), none, (.op (.mv (.t 68)))⟩ ::
⟨(some 69), none, (.op (.extract (.t 66) 0))⟩ ::
⟨(some 70), none, (.op (.extract (.t 66) 1))⟩ ::
⟨(some 19), none, (.op (.alloc [Value.slice none 0 0, Value.slice none 0 0] 29))⟩ ::
⟨none, none, (.op (.store 2 (.t 19) (.t 69)))⟩ ::
⟨(some 20), none, (.op (.mv (.t 70)))⟩ :: [])) (.seq (.seq (.reg (
    ⟨(some 71), none, (.op (.mv (.t 4)))⟩ ::
⟨(some 72), none, (.op (.int .neq (.t 71) (.c (Value.int .i64 0))))⟩ ::
⟨(some 73), none, (.op (.mv (.t 72)))⟩ ::
⟨(some 74), (some (73, false)), (.op (.mv (.t 6)))⟩ ::
⟨(some 75), (some (73, false)), (.op (.int .neq (.t 74) (.c (Value.int .i64 20))))⟩ ::
⟨(some 76), none, (.op (.pick (.t 73) (.c (Value.bool true)) (.t 75)))⟩ ::
⟨(some 77), none, (.op (.mv (.t 76)))⟩ ::
⟨(some 78), (some (77, false)), (.op (.mv (.t 8)))⟩ ::
⟨(some 79), (some (77, false)), (.op (.int .neq (.t 78) (.c (Value.int .i64 0))))⟩ ::
⟨(some 80), none, (.op (.pick (.t 77) (.c (Value.bool true)) (.t 79)))⟩ ::
⟨(some 81), none, (.op (.mv (.t 80)))⟩ ::
⟨(some 82), (some (81, false)), (.op (.mv (.t 10)))⟩ ::
⟨(some 83), (some (81, false)), (.op (.int .neq (.t 82) (.c (Value.int .i64 0))))⟩ ::
⟨(some 84), none, (.op (.pick (.t 81) (.c (Value.bool true)) (.t 83)))⟩ ::
⟨(some 85), none, (.op (.mv (.t 84)))⟩ ::
⟨(some 86), (some (85, false)), (.op (.mv (.t 12)))⟩ ::
⟨(some 87), (some (85, false)), (.op (.int .neq (.t 86) (.c (Value.int .i64 0))))⟩ ::
⟨(some 88), none, (.op (.pick (.t 85) (.c (Value.bool true)) (.t 87)))⟩ ::
⟨(some 89), none, (.op (.mv (.t 88)))⟩ ::
⟨(some 90), (some (89, false)), (.op (.mv (.t 14)))⟩ ::
⟨(some 91), (some (89, false)), (.op (.int .neq (.t 90) (.c (Value.int .i64 0))))⟩ ::
⟨(some 92), none, (.op (.pick (.t 89) (.c (Value.bool true)) (.t 91)))⟩ ::
⟨(some 93), none, (.op (.mv (.t 92)))⟩ ::
⟨(some 94), (some (93, false)), (.op (.mv (.t 16)))⟩ ::
⟨(some 95), (some (93, false)), (.op (.int .neq (.t 94) (.c (Value.int .i64 0))))⟩ ::
⟨(some 96), none, (.op (.pick (.t 93) (.c (Value.bool true)) (.t 95)))⟩ ::
⟨(some 97), none, (.op (.mv (.t 96)))⟩ ::
⟨(some 98), (some (97, false)), (.op (.mv (.t 18)))⟩ ::
⟨(some 99), (some (97, false)), (.op (.int .neq (.t 98) (.c (Value.int .i64 0))))⟩ ::
⟨(some 100), none, (.op (.pick (.t 97) (.c (Value.bool true)) (.t 99)))⟩ ::
⟨(some 101), none, (.op (.mv (.t 100)))⟩ ::
⟨(some 102), (some (101, false)), (.op (.mv (.t 20)))⟩ ::
⟨(some 103), (some (101, false)), (.op (.int .neq (.t 102) (.c (Value.int .i64 0))))⟩ ::
⟨(some 104), none, (.op (.pick (.t 101) (.c (Value.bool true)) (.t 103)))⟩ ::
⟨(some 105), none, (.op (.mv (.t 104)))⟩ ::
⟨(some 106), (some (105, false)), (.op (.loadn 2 (.t 7)))⟩ ::
⟨(some 107), (some (105, false)), (.op (.build [Value.int .i64 0, Value.int .i64 0] [(0, 1, (.c (Value.int .i64 102))), (1, 1, (.c (Value.int .i64 105)))]))⟩ ::
⟨(some 108), (some (105, false)), (.op (.pure (rawOp Try.f10 11 37)))⟩ ::
⟨(some 109), none, (.op (.pick (.t 105) (.c (Value.bool true)) (.t 108)))⟩ ::
⟨(some 110), none, (.op (.mv (.t 109)))⟩ ::
⟨(some 111), (some (110, false)), (.op (.loadn 2 (.t 9)))⟩ ::
⟨(some 112), (some (110, false)), (.op (.build [Value.int .i64 0, Value.int .i64 0] [(0, 1, (.c (Value.int .i64 50))), (1, 1, (.c (Value.int .i64 54)))]))⟩ ::
⟨(some 113), (some (110, false)), (.op (.pure (rawOp Try.f10 11 42)))⟩ ::
⟨(some 114), none, (.op (.pick (.t 110) (.c (Value.bool true)) (.t 113)))⟩ ::
⟨(some 115), none, (.op (.mv (.t 114)))⟩ ::
⟨(some 116), (some (115, false)), (.op (.loadn 2 (.t 11)))⟩ ::
⟨(some 117), (some (115, false)), (.op (.build [Value.int .i64 0, Value.int .i64 0] [(0, 1, (.c (Value.int .i64 49))), (1, 1, (.c (Value.int .i64 52)))]))⟩ ::
⟨(some 118), (some (115, false)), (.op (.pure (rawOp Try.f10 11 47)))⟩ ::
⟨(some 119), none, (.op (.pick (.t 115) (.c (Value.bool true)) (.t 118)))⟩ ::
⟨(some 120), none, (.op (.mv (.t 119)))⟩ ::
⟨(some 121), (some (120, false)), (.op (.mv (.t 13)))⟩ ::
⟨(some 122), (some (120, false)), (.op (.int .neq (.t 121) (.c (Value.int .i64 (-3)))))⟩ ::
⟨(some 123), none, (.op (.pick (.t 120) (.c (Value.bool true)) (.t 122)))⟩ ::
⟨(some 124), none, (.op (.mv (.t 123)))⟩ ::
⟨(some 125), (some (124, false)), (.op (.mv (.t 17)))⟩ ::
⟨(some 126), (some (124, false)), (.op (.bslice [Value.int .i64 0, Value.int .i64 0] [(0, 1, (.c (Value.int .i64 0))), (1, 1, (.c (Value.int .i64 1)))] 2 3))⟩ ::
⟨(some 127), (some (124, false)), (.call (.c (Value.func (.func 26) #[] #[])) [(.t 125), (.t 126)])⟩ ::
⟨(some 128), (some (124, false)), (.op (.not (.t 127)))⟩ ::
⟨(some 129), none, (.op (.pick (.t 124) (.c (Value.bool true)) (.t 128)))⟩ :: [])) (.cond (.t 129) (.seq (.reg (
    ⟨(some 0), none, (.op (.mv (.c (Value.bool false))))⟩ :: [])) .ret) .skip)) (.seq (.reg (
    ⟨(some 131), none, (.op (.loadn 5 (.t 2)))⟩ ::
⟨(some 132), none, (.op (.mv (.t 15)))⟩ ::
⟨(some 133), none, (.call (.c (Value.func (.func 27) #[] #[])) [(.t 131), (.t 132)])⟩ ::
⟨(some 130), none, (.op (.mv (.t 133)))⟩ ::
⟨(some 134), none, (.op (.extract (.t 130) 0))⟩ ::
⟨(some 135), none, (.op (.extract (.t 130) 1))⟩ ::
⟨(some 21), none, (.op (.mv (.t 134)))⟩ ::
⟨(some 22), none, (.op (.mv (.t 135)))⟩ :: [])) (.seq (.reg (
    ⟨(some 136), none, (.op (.mv (.t 22)))⟩ ::
⟨(some 137), none, (.op (.int .eql (.t 136) (.c (Value.int .i64 0))))⟩ ::
⟨(some 138), none, (.op (.mv (.t 137)))⟩ ::
⟨(some 139), (some (138, true)), (.op (.mv (.t 21)))⟩ ::
⟨(some 140), (some (138, true)), (.op (.int .lss (.t 139) (.c (Value.int .i64 0))))⟩ ::
⟨(some 141), none, (.op (.pick (.t 138) (.t 140) (.c (Value.bool false))))⟩ ::
⟨(some 142), none, (.op (.mv (.t 141)))⟩ ::
⟨(some 143), (some (142, true)), (.op (.loadn 5 (.t 1)))⟩ ::
⟨(some 144), (some (142, true)), (.op (.loadn 2 (.t 3)))⟩ ::
⟨(some 145), (some (142, true)), (.call (.c (Value.func (.func 14) #[] #[])) [(.t 143), (.t 144)])⟩ ::
⟨(some 146), (some (142, true)), (.op (.int .eql (.t 145) (.c (Value.int .i64 0))))⟩ ::
⟨(some 147), none, (.op (.pick (.t 142) (.t 146) (.c (Value.bool false))))⟩ ::
⟨(some 148), none, (.op (.mv (.t 147)))⟩ ::
⟨(some 149), (some (148, true)), (.op (.loadn 5 (.t 1)))⟩ ::
⟨(some 150), (some (148, true)), (.op (.loadn 2 (.t 19)))⟩ ::
⟨(some 151), (some (148, true)), (.call (.c (Value.func (.func 14) #[] #[])) [(.t 149), (.t 150)])⟩ ::
⟨(some 152), (some (148, true)), (.op (.int .eql (.t 151) (.c (Value.int .i64 0))))⟩ ::
⟨(some 153), none, (.op (.pick (.t 148) (.t 152) (.c (Value.bool false))))⟩ ::
⟨(some 154), none, (.op (.mv (.t 153)))⟩ ::
⟨(some 155), (some (154, true)), (.op (.faddr 1 (.t 19)))⟩ ::
⟨(some 156), (some (154, true)), (.op (.load1 (.t 155)))⟩ ::
⟨(some 157), (some (154, true)), (.op (.ixsl 1 (.t 156) (.c (Value.int .i64 1))))⟩ ::
⟨(some 158), (some (154, true)), (.op (.load1 (.t 157)))⟩ ::
⟨(some 159), (some (154, true)), (.op (.int .eql (.t 158) (.c (Value.int .i64 54))))⟩ ::
⟨(some 160), none, (.op (.pick (.t 154) (.t 159) (.c (Value.bool false))))⟩ ::
⟨(some 161), none, (.op (.mv (.t 160)))⟩ ::
⟨(some 162), (some (161, true)), (.op (.loadn 5 (.t 1)))⟩ ::
⟨(some 163), (some (161, true)), (.op (.bslice [Value.int .i64 0, Value.int .i64 0] [(0, 1, (.c (Value.int .i64 (-1)))), (1, 1, (.c (Value.int .i64 3)))] 2 2))⟩ ::
⟨(some 164), (some (161, true)), (.op (.bslice [Value.int .i64 0, Value.int .i64 0] [(0, 1, (.c (Value.int .i64 102))), (1, 1, (.c (Value.int .i64 51)))] 2 2))⟩ ::
⟨(some 165), (some (161, true)), (.op (.build [Value.slice none 0 0, Value.slice none 0 0] [(0, 1, (.t 163)), (1, 1, (.t 164))]))⟩ ::
⟨(some 166), (some (161, true)), (.call (.c (Value.func (.func 15) #[] #[])) [(.t 162), (.t 165)])⟩ ::
⟨(some 167), (some (161, true)), (.op (.int .eql (.t 166) (.c (Value.int .i64 0))))⟩ ::
⟨(some 168), none, (.op (.pick (.t 161) (.t 167) (.c (Value.bool false))))⟩ ::
⟨(some 0), none, (.op (.mv (.t 168)))⟩ :: [])) .ret))))))))))))))
def r10 : List ResultVar := [.tmp 0]
set_option maxRecDepth 1000000 in
set_option maxHeartbeats 4000000 in
theorem fun10 : Fun Try.prog 10 169 0 a10 r10 :=
  ⟨rfl, Try.f10, _, rfl, rfl, rfl, by decide, rfl, rfl, rfl⟩
/-- tumblehome/agree.Spread -/
noncomputable def a11 : ACode := (.seq (.reg (
    ⟨(some 2), none, (.op (.box (.t 0) 26))⟩ ::
⟨(some 4), none, (.op (.alloc [Value.int .i64 0, Value.int .i64 0] 23))⟩ ::
⟨(some 5), none, (.op (.mv (.c (Value.int .i64 0))))⟩ :: [])) (.seq (.reg (
    ⟨(some 12), none, (.op (.loadn 5 (.t 2)))⟩ ::
⟨(some 13), none, (.op (.mv (.t 1)))⟩ ::
⟨(some 14), none, (.op (.bslice [Value.int .i64 0] [(0, 1, (.t 13))] 1 3))⟩ ::
⟨(some 15), none, (.call (.c (Value.func (.func 28) #[] #[])) [(.t 12), (.t 14)])⟩ ::
⟨(some 11), none, (.op (.mv (.t 15)))⟩ ::
⟨(some 16), none, (.op (.extract (.t 11) 0))⟩ ::
⟨(some 17), none, (.op (.extract (.t 11) 1))⟩ ::
⟨(some 18), none, (.op (.extract (.t 11) 2))⟩ ::
⟨(some 6), none, (.op (.mv (.t 16)))⟩ ::
⟨(some 7), none, (.op (.mv (.t 17)))⟩ ::
⟨(some 8), none, (.op (.mv (.t 18)))⟩ :: [])) (.seq (.seq (.reg (
    ⟨(some 19), none, (.op (.mv (.t 8)))⟩ ::
⟨(some 20), none, (.op (.int .neq (.t 19) (.c (Value.int .i64 0))))⟩ :: [])) (.cond (.t 20) (.seq (.reg (
    ⟨(some 21), none, (.op (.build [Value.int .i64 0, Value.int .i64 0] []))⟩ ::
⟨(some 22), none, (.op (.mv (.t 8)))⟩ ::
⟨none, none, (.op (.store 2 (.t 4) (.t 21)))⟩ ::
⟨(some 5), none, (.op (.mv (.t 22)))⟩ :: [])) .ret) .skip)) (.seq (.reg (
    ⟨(some 24), none, (.op (.mv (.t 6)))⟩ ::
⟨(some 25), none, (.call (.c (Value.func (.func 29) #[] #[])) [(.t 24)])⟩ ::
⟨(some 26), none, (.call (.c (Value.func (.func 30) #[] #[])) [(.t 25)])⟩ ::
⟨(some 23), none, (.op (.mv (.t 26)))⟩ ::
⟨(some 27), none, (.op (.extract (.t 23) 0))⟩ ::
⟨(some 28), none, (.op (.extract (.t 23) 1))⟩ ::
⟨(some 9), none, (.op (.mv (.t 27)))⟩ ::
⟨(some 10), none, (.op (.mv (.t 28)))⟩ :: [])) (.seq (.dreg (
    ⟨(some 29), none, (.op (.mv (.t 7)))⟩ ::
⟨(some 30), none, (.call (.c (Value.func (.func 31) #[] #[])) [(.t 29), (.c (Value.int .i64 1))])⟩ ::
⟨(some 31), none, (.op (.field1 1 (.t 30)))⟩ ::
⟨(some 32), none, (.op (.mv (.t 1)))⟩ ::
⟨(some 33), none, (.op (.ixsl 1 (.t 31) (.t 32)))⟩ ::
⟨(some 34), none, (.op (.load1 (.t 33)))⟩ ::
⟨(some 35), none, (.op (.mv (.t 9)))⟩ ::
⟨(some 36), none, (.call (.c (Value.func (.func 31) #[] #[])) [(.t 35), (.c (Value.int .i64 (-1)))])⟩ ::
⟨(some 37), none, (.op (.field1 1 (.t 36)))⟩ ::
⟨(some 38), none, (.op (.mv (.t 1)))⟩ ::
⟨(some 39), none, (.op (.ixsl 1 (.t 37) (.t 38)))⟩ ::
⟨(some 40), none, (.op (.load1 (.t 39)))⟩ ::
⟨(some 41), none, (.op (.build [Value.int .i64 0, Value.int .i64 0] [(0, 1, (.t 34)), (1, 1, (.t 40))]))⟩ ::
⟨none, none, (.op (.store 2 (.t 4) (.t 41)))⟩ ::
⟨(some 5), none, (.op (.mv (.c (Value.int .i64 0))))⟩ :: []) []) .ret)))))
def r11 : List ResultVar := [.cell 4 23, .tmp 5]
set_option maxRecDepth 1000000 in
set_option maxHeartbeats 4000000 in
theorem fun11 : Fun Try.prog 11 42 2 a11 r11 :=
  ⟨rfl, Try.f11, _, rfl, rfl, rfl, by decide, rfl, rfl, rfl⟩
/-- tumblehome/agree.Attain -/
noncomputable def a12 : ACode := (.seq (.reg (
    ⟨(some 3), none, (.op (.box (.t 0) 26))⟩ ::
⟨(some 6), none, (.op (.alloc [Value.slice none 0 0, Value.slice none 0 0] 29))⟩ ::
⟨(some 7), none, (.op (.mv (.c (Value.int .i64 0))))⟩ :: [])) (.seq (.reg (
    ⟨(some 14), none, (.op (.loadn 5 (.t 3)))⟩ ::
⟨(some 15), none, (.op (.mv (.t 1)))⟩ ::
⟨(some 16), none, (.op (.bslice [Value.int .i64 0] [(0, 1, (.t 15))] 1 3))⟩ ::
⟨(some 17), none, (.call (.c (Value.func (.func 28) #[] #[])) [(.t 14), (.t 16)])⟩ ::
⟨(some 13), none, (.op (.mv (.t 17)))⟩ ::
⟨(some 18), none, (.op (.extract (.t 13) 0))⟩ ::
⟨(some 19), none, (.op (.extract (.t 13) 1))⟩ ::
⟨(some 20), none, (.op (.extract (.t 13) 2))⟩ ::
⟨(some 8), none, (.op (.mv (.t 18)))⟩ ::
⟨(some 9), none, (.op (.mv (.t 19)))⟩ ::
⟨(some 10), none, (.op (.mv (.t 20)))⟩ :: [])) (.seq (.seq (.reg (
    ⟨(some 21), none, (.op (.mv (.t 10)))⟩ ::
⟨(some 22), none, (.op (.int .neq (.t 21) (.c (Value.int .i64 0))))⟩ :: [])) (.cond (.t 22) (.seq (.reg (
    ⟨(some 23), none, (.op (.build [Value.slice none 0 0, Value.slice none 0 0] []))⟩ ::
⟨(some 24), none, (.op (.mv (.t 10)))⟩ ::
⟨none, none, (.op (.store 2 (.t 6) (.t 23)))⟩ ::
⟨(some 7), none, (.op (.mv (.t 24)))⟩ :: [])) .ret) .skip)) (.seq (.seq (.reg (
    ⟨(some 25), none, (.op (.mv (.t 2)))⟩ :: [])) (.cond (.t 25) (.seq (.reg (
    ⟨(some 27), none, (.op (.mv (.t 8)))⟩ ::
⟨(some 28), none, (.call (.c (Value.func (.func 29) #[] #[])) [(.t 27)])⟩ ::
⟨(some 29), none, (.call (.c (Value.func (.func 30) #[] #[])) [(.t 28)])⟩ ::
⟨(some 26), none, (.op (.mv (.t 29)))⟩ ::
⟨(some 30), none, (.op (.extract (.t 26) 0))⟩ ::
⟨(some 31), none, (.op (.extract (.t 26) 1))⟩ ::
⟨(some 11), none, (.op (.mv (.t 30)))⟩ ::
⟨(some 12), none, (.op (.mv (.t 31)))⟩ :: [])) (.seq (.reg (
    ⟨(some 32), none, (.op (.mv (.t 11)))⟩ ::
⟨(some 33), none, (.call (.c (Value.func (.func 31) #[] #[])) [(.t 32), (.c (Value.int .i64 (-1)))])⟩ ::
⟨none, none, (.op (.store 2 (.t 6) (.t 33)))⟩ ::
⟨(some 7), none, (.op (.mv (.c (Value.int .i64 0))))⟩ :: [])) .ret)) .skip)) (.seq (.reg (
    ⟨(some 34), none, (.op (.mv (.t 9)))⟩ ::
⟨(some 35), none, (.call (.c (Value.func (.func 31) #[] #[])) [(.t 34), (.c (Value.int .i64 1))])⟩ ::
⟨none, none, (.op (.store 2 (.t 6) (.t 35)))⟩ ::
⟨(some 7), none, (.op (.mv (.c (Value.int .i64 0))))⟩ :: [])) .ret)))))
def r12 : List ResultVar := [.cell 6 29, .tmp 7]
set_option maxRecDepth 1000000 in
set_option maxHeartbeats 4000000 in
theorem fun12 : Fun Try.prog 12 36 3 a12 r12 :=
  ⟨rfl, Try.f12, _, rfl, rfl, rfl, by decide, rfl, rfl, rfl⟩
/-- tumblehome/agree.Between -/
noncomputable def a13 : ACode := (.seq (.reg (
    ⟨(some 3), none, (.op (.box (.t 0) 26))⟩ ::
⟨(some 6), none, (.op (.alloc [Value.int .i64 0, Value.int .i64 0] 23))⟩ ::
⟨(some 7), none, (.op (.mv (.c (Value.int .i64 0))))⟩ :: [])) (.seq (.reg (
    ⟨(some 14), none, (.op (.loadn 5 (.t 3)))⟩ ::
⟨(some 15), none, (.op (.mv (.t 1)))⟩ ::
⟨(some 16), none, (.op (.mv (.t 2)))⟩ ::
⟨(some 17), none, (.op (.bslice [Value.int .i64 0, Value.int .i64 0] [(0, 1, (.t 15)), (1, 1, (.t 16))] 2 3))⟩ ::
⟨(some 18), none, (.call (.c (Value.func (.func 28) #[] #[])) [(.t 14), (.t 17)])⟩ ::
⟨(some 13), none, (.op (.mv (.t 18)))⟩ ::
⟨(some 19), none, (.op (.extract (.t 13) 0))⟩ ::
⟨(some 20), none, (.op (.extract (.t 13) 1))⟩ ::
⟨(some 21), none, (.op (.extract (.t 13) 2))⟩ ::
⟨(some 8), none, (.op (.mv (.t 19)))⟩ ::
⟨(some 9), none, (.op (.mv (.t 20)))⟩ ::
⟨(some 10), none, (.op (.mv (.t 21)))⟩ :: [])) (.seq (.seq (.reg (
    ⟨(some 22), none, (.op (.mv (.t 10)))⟩ ::
⟨(some 23), none, (.op (.int .neq (.t 22) (.c (Value.int .i64 0))))⟩ :: [])) (.cond (.t 23) (.seq (.reg (
    ⟨(some 24), none, (.op (.build [Value.int .i64 0, Value.int .i64 0] []))⟩ ::
⟨(some 25), none, (.op (.mv (.t 10)))⟩ ::
⟨none, none, (.op (.store 2 (.t 6) (.t 24)))⟩ ::
⟨(some 7), none, (.op (.mv (.t 25)))⟩ :: [])) .ret) .skip)) (.seq (.dreg (
    ⟨(some 26), none, (.op (.faddr 0 (.t 3)))⟩ ::
⟨(some 27), none, (.op (.load1 (.t 26)))⟩ ::
⟨(some 28), none, (.op (.int .add (.c (Value.int .i64 1)) (.t 27)))⟩ ::
⟨(some 29), none, (.op (.mv (.t 1)))⟩ ::
⟨(some 30), none, (.op (.int .add (.t 28) (.t 29)))⟩ ::
⟨(some 31), none, (.op (.faddr 0 (.t 3)))⟩ ::
⟨(some 32), none, (.op (.load1 (.t 31)))⟩ ::
⟨(some 33), none, (.op (.int .add (.c (Value.int .i64 1)) (.t 32)))⟩ ::
⟨(some 34), none, (.op (.mv (.t 2)))⟩ ::
⟨(some 35), none, (.op (.int .add (.t 33) (.t 34)))⟩ ::
⟨(some 11), none, (.op (.mv (.t 30)))⟩ ::
⟨(some 12), none, (.op (.mv (.t 35)))⟩ :: []) []) (.seq (.reg (
    ⟨(some 36), none, (.op (.mv (.t 8)))⟩ ::
⟨(some 37), none, (.op (.mv (.t 12)))⟩ ::
⟨(some 38), none, (.op (.mv (.t 11)))⟩ ::
⟨(some 39), none, (.call (.c (Value.func (.func 32) #[] #[])) [(.t 36), (.t 37), (.t 38)])⟩ ::
⟨(some 40), none, (.op (.neg (.t 39)))⟩ ::
⟨(some 41), none, (.op (.mv (.t 8)))⟩ ::
⟨(some 42), none, (.op (.mv (.t 11)))⟩ ::
⟨(some 43), none, (.op (.mv (.t 12)))⟩ ::
⟨(some 44), none, (.call (.c (Value.func (.func 32) #[] #[])) [(.t 41), (.t 42), (.t 43)])⟩ ::
⟨(some 45), none, (.op (.build [Value.int .i64 0, Value.int .i64 0] [(0, 1, (.t 40)), (1, 1, (.t 44))]))⟩ ::
⟨none, none, (.op (.store 2 (.t 6) (.t 45)))⟩ ::
⟨(some 7), none, (.op (.mv (.c (Value.int .i64 0))))⟩ :: [])) .ret)))))
def r13 : List ResultVar := [.cell 6 23, .tmp 7]
set_option maxRecDepth 1000000 in
set_option maxHeartbeats 4000000 in
theorem fun13 : Fun Try.prog 13 46 3 a13 r13 :=
  ⟨rfl, Try.f13, _, rfl, rfl, rfl, by decide, rfl, rfl, rfl⟩
/-- tumblehome/tumblehomeref09.CheckTruth -/
noncomputable def a14 : ACode := (.seq (.reg (
    ⟨(some 2), none, (.op (.box (.t 0) 26))⟩ ::
⟨(some 3), none, (.op (.box (.t 1) 29))⟩ ::
⟨(some 4), none, (.op (.mv (.c (Value.int .i64 0))))⟩ :: [])) (.seq (.seq (.reg (
    ⟨(some 9), none, (.op (.loadn 5 (.t 2)))⟩ ::
⟨(some 10), none, (.call (.c (Value.func (.func 25) #[] #[])) [(.t 9)])⟩ ::
⟨(some 11), none, (.op (.int .neq (.t 10) (.c (Value.int .i64 0))))⟩ :: [])) (.cond (.t 11) (.seq (.reg (
    ⟨(some 12), none, (.op (.loadn 5 (.t 2)))⟩ ::
⟨(some 13), none, (.call (.c (Value.func (.func 25) #[] #[])) [(.t 12)])⟩ ::
⟨(some 4), none, (.op (.mv (.t 13)))⟩ :: [])) .ret) .skip)) (.seq (.seq (.reg (
    ⟨(some 14), none, (.op (.faddr 0 (.t 3)))⟩ ::
⟨(some 15), none, (.op (.load1 (.t 14)))⟩ ::
⟨(some 16), none, (.op (.len (.t 15)))⟩ ::
⟨(some 17), none, (.op (.faddr 0 (.t 2)))⟩ ::
⟨(some 18), none, (.op (.load1 (.t 17)))⟩ ::
⟨(some 19), none, (.op (.int .neq (.t 16) (.t 18)))⟩ ::
⟨(some 20), none, (.op (.mv (.t 19)))⟩ ::
⟨(some 21), (some (20, false)), (.op (.faddr 1 (.t 3)))⟩ ::
⟨(some 22), (some (20, false)), (.op (.load1 (.t 21)))⟩ ::
⟨(some 23), (some (20, false)), (.op (.len (.t 22)))⟩ ::
⟨(some 24), (some (20, false)), (.op (.faddr 1 (.t 2)))⟩ ::
⟨(some 25), (some (20, false)), (.op (.load1 (.t 24)))⟩ ::
⟨(some 26), (some (20, false)), (.op (.int .neq (.t 23) (.t 25)))⟩ ::
⟨(some 27), none, (.op (.pick (.t 20) (.c (Value.bool true)) (.t 26)))⟩ :: [])) (.cond (.t 27) (.seq (.reg (
    ⟨(some 4), none, (.op (.mv (.c (Value.int .i64 15))))⟩ :: [])) .ret) .skip)) (.seq (.seq (.reg (
    ⟨(some 28), none, (.op (.faddr 0 (.t 3)))⟩ ::
⟨(some 29), none, (.op (.load1 (.t 28)))⟩ ::
⟨(some 30), none, (.call (.c (Value.func (.func 33) #[] #[])) [(.t 29)])⟩ ::
⟨(some 31), none, (.op (.not (.t 30)))⟩ ::
⟨(some 32), none, (.op (.mv (.t 31)))⟩ ::
⟨(some 33), (some (32, false)), (.op (.faddr 1 (.t 3)))⟩ ::
⟨(some 34), (some (32, false)), (.op (.load1 (.t 33)))⟩ ::
⟨(some 35), (some (32, false)), (.call (.c (Value.func (.func 33) #[] #[])) [(.t 34)])⟩ ::
⟨(some 36), (some (32, false)), (.op (.not (.t 35)))⟩ ::
⟨(some 37), none, (.op (.pick (.t 32) (.c (Value.bool true)) (.t 36)))⟩ :: [])) (.cond (.t 37) (.seq (.reg (
    ⟨(some 4), none, (.op (.mv (.c (Value.int .i64 3))))⟩ :: [])) .ret) .skip)) (.seq (.seq (.reg (
    ⟨(some 5), none, (.op (.mv (.c (Value.int .i64 0))))⟩ :: [])) (.block 0 (.loop (.seq (.seq (.reg (
    ⟨(some 38), none, (.op (.mv (.t 5)))⟩ ::
⟨(some 39), none, (.op (.faddr 0 (.t 2)))⟩ ::
⟨(some 40), none, (.op (.load1 (.t 39)))⟩ ::
⟨(some 41), none, (.op (.int .lss (.t 38) (.t 40)))⟩ :: [])) (.cond (.t 41) .skip (.exit 0))) (.seq (.block 1 (.seq (.dreg (
    ⟨(some 44), none, (.op (.faddr 0 (.t 3)))⟩ ::
⟨(some 45), none, (.op (.load1 (.t 44)))⟩ ::
⟨(some 46), none, (.op (.mv (.t 5)))⟩ ::
⟨(some 47), none, (.op (.ixsl 1 (.t 45) (.t 46)))⟩ ::
⟨(some 48), none, (.op (.load1 (.t 47)))⟩ ::
⟨(some 49), none, (.op (.faddr 2 (.t 2)))⟩ ::
⟨(some 50), none, (.op (.faddr 0 (.t 49)))⟩ ::
⟨(some 51), none, (.op (.load1 (.t 50)))⟩ ::
⟨(some 52), none, (.op (.int .lss (.t 48) (.t 51)))⟩ ::
⟨(some 53), none, (.op (.mv (.t 52)))⟩ ::
⟨(some 54), (some (53, false)), (.op (.faddr 0 (.t 3)))⟩ ::
⟨(some 55), (some (53, false)), (.op (.load1 (.t 54)))⟩ ::
⟨(some 56), (some (53, false)), (.op (.mv (.t 5)))⟩ ::
⟨(some 57), (some (53, false)), (.op (.ixsl 1 (.t 55) (.t 56)))⟩ ::
⟨(some 58), (some (53, false)), (.op (.load1 (.t 57)))⟩ ::
⟨(some 59), (some (53, false)), (.op (.faddr 2 (.t 2)))⟩ ::
⟨(some 60), (some (53, false)), (.op (.faddr 1 (.t 59)))⟩ ::
⟨(some 61), (some (53, false)), (.op (.load1 (.t 60)))⟩ ::
⟨(some 62), (some (53, false)), (.op (.int .gtr (.t 58) (.t 61)))⟩ ::
⟨(some 63), none, (.op (.pick (.t 53) (.c (Value.bool true)) (.t 62)))⟩ :: []) []) (.cond (.t 63) (.seq (.reg (
    ⟨(some 4), none, (.op (.mv (.c (Value.int .i64 20))))⟩ :: [])) .ret) .skip))) (.reg (
    ⟨(some 42), none, (.op (.mv (.t 5)))⟩ ::
⟨(some 43), none, (.op (.int .add (.t 42) (.c (Value.int .i64 1))))⟩ ::
⟨(some 5), none, (.op (.mv (.t 43)))⟩ :: []))))))) (.seq (.seq (.reg (
    ⟨(some 6), none, (.op (.mv (.c (Value.int .i64 0))))⟩ :: [])) (.block 2 (.loop (.seq (.seq (.reg (
    ⟨(some 64), none, (.op (.mv (.t 6)))⟩ ::
⟨(some 65), none, (.op (.faddr 4 (.t 2)))⟩ ::
⟨(some 66), none, (.op (.load1 (.t 65)))⟩ ::
⟨(some 67), none, (.op (.len (.t 66)))⟩ ::
⟨(some 68), none, (.op (.int .lss (.t 64) (.t 67)))⟩ :: [])) (.cond (.t 68) .skip (.exit 2))) (.seq (.block 3 (.seq (.reg (
    ⟨(some 71), none, (.op (.faddr 4 (.t 2)))⟩ ::
⟨(some 72), none, (.op (.load1 (.t 71)))⟩ ::
⟨(some 73), none, (.op (.mv (.t 6)))⟩ ::
⟨(some 74), none, (.op (.ixsl 4 (.t 72) (.t 73)))⟩ ::
⟨(some 75), none, (.op (.loadn 4 (.t 74)))⟩ ::
⟨(some 7), none, (.op (.alloc [Value.int .i64 0, Value.int .i64 0, Value.int .i64 0, Value.int .i64 0] 42))⟩ ::
⟨none, none, (.op (.store 4 (.t 7) (.t 75)))⟩ :: [])) (.seq (.dreg (
    ⟨(some 76), none, (.op (.faddr 0 (.t 3)))⟩ ::
⟨(some 77), none, (.op (.load1 (.t 76)))⟩ ::
⟨(some 78), none, (.op (.faddr 0 (.t 7)))⟩ ::
⟨(some 79), none, (.op (.load1 (.t 78)))⟩ ::
⟨(some 80), none, (.op (.ixsl 1 (.t 77) (.t 79)))⟩ ::
⟨(some 81), none, (.op (.load1 (.t 80)))⟩ ::
⟨(some 82), none, (.op (.faddr 1 (.t 3)))⟩ ::
⟨(some 83), none, (.op (.load1 (.t 82)))⟩ ::
⟨(some 84), none, (.op (.faddr 1 (.t 7)))⟩ ::
⟨(some 85), none, (.op (.load1 (.t 84)))⟩ ::
⟨(some 86), none, (.op (.ixsl 1 (.t 83) (.t 85)))⟩ ::
⟨(some 87), none, (.op (.load1 (.t 86)))⟩ ::
⟨(some 88), none, (.op (.int .add (.t 81) (.t 87)))⟩ ::
⟨(some 8), none, (.op (.mv (.t 88)))⟩ :: []) []) (.seq (.reg (
    ⟨(some 89), none, (.op (.mv (.t 8)))⟩ ::
⟨(some 90), none, (.op (.faddr 2 (.t 7)))⟩ ::
⟨(some 91), none, (.op (.faddr 0 (.t 90)))⟩ ::
⟨(some 92), none, (.op (.load1 (.t 91)))⟩ ::
⟨(some 93), none, (.op (.int .lss (.t 89) (.t 92)))⟩ ::
⟨(some 94), none, (.op (.mv (.t 93)))⟩ ::
⟨(some 95), (some (94, false)), (.op (.mv (.t 8)))⟩ ::
⟨(some 96), (some (94, false)), (.op (.faddr 2 (.t 7)))⟩ ::
⟨(some 97), (some (94, false)), (.op (.faddr 1 (.t 96)))⟩ ::
⟨(some 98), (some (94, false)), (.op (.load1 (.t 97)))⟩ ::
⟨(some 99), (some (94, false)), (.op (.int .gtr (.t 95) (.t 98)))⟩ ::
⟨(some 100), none, (.op (.pick (.t 94) (.c (Value.bool true)) (.t 99)))⟩ :: [])) (.cond (.t 100) (.seq (.reg (
    ⟨(some 4), none, (.op (.mv (.c (Value.int .i64 20))))⟩ :: [])) .ret) .skip))))) (.reg (
    ⟨(some 69), none, (.op (.mv (.t 6)))⟩ ::
⟨(some 70), none, (.op (.int .add (.t 69) (.c (Value.int .i64 1))))⟩ ::
⟨(some 6), none, (.op (.mv (.t 70)))⟩ :: []))))))) (.seq (.reg (
    ⟨(some 4), none, (.op (.mv (.c (Value.int .i64 0))))⟩ :: [])) .ret)))))))
def r14 : List ResultVar := [.tmp 4]
set_option maxRecDepth 1000000 in
set_option maxHeartbeats 4000000 in
theorem fun14 : Fun Try.prog 14 101 2 a14 r14 :=
  ⟨rfl, Try.f14, _, rfl, rfl, rfl, by decide, rfl, rfl, rfl⟩
/-- tumblehome/agree.CheckTruth -/
noncomputable def a15 : ACode := (.seq (.reg (
    ⟨(some 2), none, (.op (.box (.t 0) 26))⟩ ::
⟨(some 3), none, (.op (.box (.t 1) 29))⟩ ::
⟨(some 4), none, (.op (.mv (.c (Value.int .i64 0))))⟩ :: [])) (.seq (.seq (.reg (
    ⟨(some 11), none, (.op (.loadn 5 (.t 2)))⟩ ::
⟨(some 12), none, (.call (.c (Value.func (.func 34) #[] #[])) [(.t 11)])⟩ ::
⟨(some 5), none, (.op (.mv (.t 12)))⟩ :: [])) (.seq (.reg (
    ⟨(some 13), none, (.op (.mv (.t 5)))⟩ ::
⟨(some 14), none, (.op (.int .neq (.t 13) (.c (Value.int .i64 0))))⟩ :: [])) (.cond (.t 14) (.seq (.reg (
    ⟨(some 15), none, (.op (.mv (.t 5)))⟩ ::
⟨(some 4), none, (.op (.mv (.t 15)))⟩ :: [])) .ret) .skip))) (.seq (.block 0 (.seq (.reg (
    ⟨(some 17), none, (.op (.faddr 0 (.t 3)))⟩ ::
⟨(some 18), none, (.op (.load1 (.t 17)))⟩ ::
⟨(some 19), none, (.op (.len (.t 18)))⟩ ::
⟨(some 20), none, (.op (.faddr 0 (.t 2)))⟩ ::
⟨(some 21), none, (.op (.load1 (.t 20)))⟩ ::
⟨(some 22), none, (.op (.int .neq (.t 19) (.t 21)))⟩ ::
⟨(some 23), none, (.op (.mv (.t 22)))⟩ ::
⟨(some 24), (some (23, false)), (.op (.faddr 1 (.t 3)))⟩ ::
⟨(some 25), (some (23, false)), (.op (.load1 (.t 24)))⟩ ::
⟨(some 26), (some (23, false)), (.op (.len (.t 25)))⟩ ::
⟨(some 27), (some (23, false)), (.op (.faddr 1 (.t 2)))⟩ ::
⟨(some 28), (some (23, false)), (.op (.load1 (.t 27)))⟩ ::
⟨(some 29), (some (23, false)), (.op (.int .neq (.t 26) (.t 28)))⟩ ::
⟨(some 30), none, (.op (.pick (.t 23) (.c (Value.bool true)) (.t 29)))⟩ ::
⟨(some 16), none, (.op (.mv (.t 30)))⟩ :: [])) (.cond (.t 16) (.seq (.reg (
    ⟨(some 4), none, (.op (.mv (.c (Value.int .i64 15))))⟩ :: [])) .ret) (.seq (.reg (
    ⟨(some 32), none, (.op (.faddr 0 (.t 3)))⟩ ::
⟨(some 33), none, (.op (.load1 (.t 32)))⟩ ::
⟨(some 34), none, (.call (.c (Value.func (.func 35) #[] #[])) [(.c (Value.int .i64 1099511627776)), (.t 33)])⟩ ::
⟨(some 35), none, (.op (.not (.t 34)))⟩ ::
⟨(some 36), none, (.op (.mv (.t 35)))⟩ ::
⟨(some 37), (some (36, false)), (.op (.faddr 1 (.t 3)))⟩ ::
⟨(some 38), (some (36, false)), (.op (.load1 (.t 37)))⟩ ::
⟨(some 39), (some (36, false)), (.call (.c (Value.func (.func 35) #[] #[])) [(.c (Value.int .i64 1099511627776)), (.t 38)])⟩ ::
⟨(some 40), (some (36, false)), (.op (.not (.t 39)))⟩ ::
⟨(some 41), none, (.op (.pick (.t 36) (.c (Value.bool true)) (.t 40)))⟩ ::
⟨(some 31), none, (.op (.mv (.t 41)))⟩ :: [])) (.cond (.t 31) (.seq (.reg (
    ⟨(some 4), none, (.op (.mv (.c (Value.int .i64 3))))⟩ :: [])) .ret) .skip))))) (.seq (.reg (
    ⟨(some 6), none, (.op (.mv (.c (Value.func (.func 36) #[] #[]))))⟩ :: [])) (.seq (.seq (.reg (
    ⟨(some 42), none, (.op (.faddr 0 (.t 3)))⟩ ::
⟨(some 43), none, (.op (.load1 (.t 42)))⟩ ::
⟨(some 44), none, (.op (.len (.t 43)))⟩ ::
⟨(some 45), none, (.op (.mv (.c (Value.int .i64 0))))⟩ :: [])) (.block 1 (.loop (.seq (.reg (
    ⟨(some 46), none, (.op (.int .lss (.t 45) (.t 44)))⟩ :: [])) (.seq (.cond (.t 46) .skip (.exit 1)) (.seq (.block 2 (.seq (.reg (
    ⟨(some 47), none, (.op (.ixsl 1 (.t 43) (.t 45)))⟩ ::
⟨(some 48), none, (.op (.load1 (.t 47)))⟩ ::
⟨(some 8), none, (.op (.mv (.t 48)))⟩ :: [])) (.seq (.reg (
    ⟨(some 49), none, (.op (.mv (.t 6)))⟩ ::
⟨(some 50), none, (.op (.faddr 2 (.t 2)))⟩ ::
⟨(some 51), none, (.op (.loadn 2 (.t 50)))⟩ ::
⟨(some 52), none, (.op (.mv (.t 8)))⟩ ::
⟨(some 53), none, (.call (.t 49) [(.t 51), (.t 52)])⟩ ::
⟨(some 54), none, (.op (.not (.t 53)))⟩ :: [])) (.cond (.t 54) (.seq (.reg (
    ⟨(some 4), none, (.op (.mv (.c (Value.int .i64 20))))⟩ :: [])) .ret) .skip)))) (.reg (
    ⟨(some 55), none, (.op (.int .add (.t 45) (.c (Value.int .i64 1))))⟩ ::
⟨(some 45), none, (.op (.mv (.t 55)))⟩ :: [])))))))) (.seq (.seq (.reg (
    ⟨(some 56), none, (.op (.faddr 4 (.t 2)))⟩ ::
⟨(some 57), none, (.op (.load1 (.t 56)))⟩ ::
⟨(some 58), none, (.op (.len (.t 57)))⟩ ::
⟨(some 59), none, (.op (.mv (.c (Value.int .i64 0))))⟩ :: [])) (.block 3 (.loop (.seq (.reg (
    ⟨(some 60), none, (.op (.int .lss (.t 59) (.t 58)))⟩ :: [])) (.seq (.cond (.t 60) .skip (.exit 3)) (.seq (.block 4 (.seq (.reg (
    ⟨(some 61), none, (.op (.ixsl 4 (.t 57) (.t 59)))⟩ ::
⟨(some 62), none, (.op (.loadn 4 (.t 61)))⟩ ::
⟨(some 10), none, (.op (.alloc [Value.int .i64 0, Value.int .i64 0, Value.int .i64 0, Value.int .i64 0] 42))⟩ ::
⟨none, none, (.op (.store 4 (.t 10) (.t 62)))⟩ :: [])) (.seq (.dreg (
    ⟨(some 63), none, (.op (.mv (.t 6)))⟩ ::
⟨(some 64), none, (.op (.faddr 2 (.t 10)))⟩ ::
⟨(some 65), none, (.op (.loadn 2 (.t 64)))⟩ ::
⟨(some 66), none, (.op (.faddr 0 (.t 3)))⟩ ::
⟨(some 67), none, (.op (.load1 (.t 66)))⟩ ::
⟨(some 68), none, (.op (.faddr 0 (.t 10)))⟩ ::
⟨(some 69), none, (.op (.load1 (.t 68)))⟩ ::
⟨(some 70), none, (.op (.ixsl 1 (.t 67) (.t 69)))⟩ ::
⟨(some 71), none, (.op (.load1 (.t 70)))⟩ ::
⟨(some 72), none, (.op (.faddr 1 (.t 3)))⟩ ::
⟨(some 73), none, (.op (.load1 (.t 72)))⟩ ::
⟨(some 74), none, (.op (.faddr 1 (.t 10)))⟩ ::
⟨(some 75), none, (.op (.load1 (.t 74)))⟩ ::
⟨(some 76), none, (.op (.ixsl 1 (.t 73) (.t 75)))⟩ ::
⟨(some 77), none, (.op (.load1 (.t 76)))⟩ ::
⟨(some 78), none, (.op (.int .add (.t 71) (.t 77)))⟩ ::
⟨(some 79), none, (.call (.t 63) [(.t 65), (.t 78)])⟩ ::
⟨(some 80), none, (.op (.not (.t 79)))⟩ :: []) []) (.cond (.t 80) (.seq (.reg (
    ⟨(some 4), none, (.op (.mv (.c (Value.int .i64 20))))⟩ :: [])) .ret) .skip)))) (.reg (
    ⟨(some 81), none, (.op (.int .add (.t 59) (.c (Value.int .i64 1))))⟩ ::
⟨(some 59), none, (.op (.mv (.t 81)))⟩ :: [])))))))) (.seq (.reg (
    ⟨(some 4), none, (.op (.mv (.c (Value.int .i64 0))))⟩ :: [])) .ret)))))))
def r15 : List ResultVar := [.tmp 4]
set_option maxRecDepth 1000000 in
set_option maxHeartbeats 4000000 in
theorem fun15 : Fun Try.prog 15 82 2 a15 r15 :=
  ⟨rfl, Try.f15, _, rfl, rfl, rfl, by decide, rfl, rfl, rfl⟩
/-- tumblehome/tumblehomelaw09.inside -/
noncomputable def a16 : ACode := (.seq (.reg (
    ⟨(some 2), none, (.op (.box (.t 0) 23))⟩ ::
⟨(some 3), none, (.op (.box (.t 1) 23))⟩ ::
⟨(some 4), none, (.op (.mv (.c (Value.bool false))))⟩ :: [])) (.seq (.reg (
    ⟨(some 5), none, (.op (.faddr 0 (.t 2)))⟩ ::
⟨(some 6), none, (.op (.load1 (.t 5)))⟩ ::
⟨(some 7), none, (.op (.faddr 0 (.t 3)))⟩ ::
⟨(some 8), none, (.op (.load1 (.t 7)))⟩ ::
⟨(some 9), none, (.op (.int .geq (.t 6) (.t 8)))⟩ ::
⟨(some 10), none, (.op (.mv (.t 9)))⟩ ::
⟨(some 11), (some (10, true)), (.op (.faddr 1 (.t 2)))⟩ ::
⟨(some 12), (some (10, true)), (.op (.load1 (.t 11)))⟩ ::
⟨(some 13), (some (10, true)), (.op (.faddr 1 (.t 3)))⟩ ::
⟨(some 14), (some (10, true)), (.op (.load1 (.t 13)))⟩ ::
⟨(some 15), (some (10, true)), (.op (.int .leq (.t 12) (.t 14)))⟩ ::
⟨(some 16), none, (.op (.pick (.t 10) (.t 15) (.c (Value.bool false))))⟩ ::
⟨(some 17), none, (.op (.mv (.t 16)))⟩ ::
⟨(some 18), (some (17, true)), (.op (.faddr 0 (.t 2)))⟩ ::
⟨(some 19), (some (17, true)), (.op (.load1 (.t 18)))⟩ ::
⟨(some 20), (some (17, true)), (.op (.faddr 1 (.t 2)))⟩ ::
⟨(some 21), (some (17, true)), (.op (.load1 (.t 20)))⟩ ::
⟨(some 22), (some (17, true)), (.op (.int .leq (.t 19) (.t 21)))⟩ ::
⟨(some 23), none, (.op (.pick (.t 17) (.t 22) (.c (Value.bool false))))⟩ ::
⟨(some 4), none, (.op (.mv (.t 23)))⟩ :: [])) .ret))
def r16 : List ResultVar := [.tmp 4]
set_option maxRecDepth 1000000 in
set_option maxHeartbeats 4000000 in
theorem fun16 : Fun Try.prog 16 24 2 a16 r16 :=
  ⟨rfl, Try.f16, _, rfl, rfl, rfl, by decide, rfl, rfl, rfl⟩
/-- tumblehome/agree.Odd -/
noncomputable def a17 : ACode := (.seq (.reg (
    ⟨(some 1), none, (.op (.box (.t 0) 26))⟩ ::
⟨(some 2), none, (.op (.mv (.c (Value.slice none 0 0))))⟩ ::
⟨(some 3), none, (.op (.mv (.c (Value.int .i64 0))))⟩ :: [])) (.seq (.seq (.reg (
    ⟨(some 12), none, (.op (.loadn 5 (.t 1)))⟩ ::
⟨(some 13), none, (.call (.c (Value.func (.func 34) #[] #[])) [(.t 12)])⟩ ::
⟨(some 4), none, (.op (.mv (.t 13)))⟩ :: [])) (.seq (.reg (
    ⟨(some 14), none, (.op (.mv (.t 4)))⟩ ::
⟨(some 15), none, (.op (.int .neq (.t 14) (.c (Value.int .i64 0))))⟩ :: [])) (.cond (.t 15) (.seq (.reg (
    ⟨(some 16), none, (.op (.mv (.t 4)))⟩ ::
⟨(some 2), none, (.op (.mv (.c (Value.slice none 0 0))))⟩ ::
⟨(some 3), none, (.op (.mv (.t 16)))⟩ :: [])) .ret) .skip))) (.seq (.seq (.reg (
    ⟨(some 18), none, (.op (.loadn 5 (.t 1)))⟩ ::
⟨(some 19), none, (.call (.c (Value.func (.func 37) #[] #[])) [(.t 18)])⟩ ::
⟨(some 20), none, (.call (.c (Value.func (.func 30) #[] #[])) [(.t 19)])⟩ ::
⟨(some 17), none, (.op (.mv (.t 20)))⟩ ::
⟨(some 21), none, (.op (.extract (.t 17) 0))⟩ ::
⟨(some 22), none, (.op (.extract (.t 17) 1))⟩ ::
⟨(some 5), none, (.op (.mv (.t 21)))⟩ ::
⟨(some 6), none, (.op (.mv (.t 22)))⟩ :: [])) (.seq (.reg (
    ⟨(some 23), none, (.op (.mv (.t 6)))⟩ :: [])) (.cond (.t 23) (.seq (.reg (
    ⟨(some 2), none, (.op (.mv (.c (Value.slice none 0 0))))⟩ ::
⟨(some 3), none, (.op (.mv (.c (Value.int .i64 5))))⟩ :: [])) .ret) .skip))) (.seq (.reg (
    ⟨(some 24), none, (.op (.mkfn (Fn.func 38) [] [(.t 1)]))⟩ ::
⟨(some 7), none, (.op (.mv (.t 24)))⟩ :: [])) (.seq (.reg (
    ⟨(some 8), none, (.op (.mv (.c (Value.slice none 0 0))))⟩ :: [])) (.seq (.seq (.reg (
    ⟨(some 25), none, (.op (.faddr 0 (.t 1)))⟩ ::
⟨(some 26), none, (.op (.load1 (.t 25)))⟩ ::
⟨(some 27), none, (.op (.mv (.c (Value.int .i64 0))))⟩ :: [])) (.block 0 (.loop (.seq (.reg (
    ⟨(some 28), none, (.op (.int .lss (.t 27) (.t 26)))⟩ :: [])) (.seq (.cond (.t 28) .skip (.exit 0)) (.seq (.block 1 (.seq (.reg (
    ⟨(some 29), none, (.op (.mv (.t 27)))⟩ ::
⟨(some 9), none, (.op (.mv (.t 29)))⟩ :: [])) (.seq (.reg (
    ⟨(some 31), none, (.op (.mv (.t 7)))⟩ ::
⟨(some 32), none, (.op (.mv (.t 9)))⟩ ::
⟨(some 33), none, (.call (.t 31) [(.t 32)])⟩ ::
⟨(some 34), none, (.call (.c (Value.func (.func 37) #[] #[])) [(.t 33)])⟩ ::
⟨(some 35), none, (.call (.c (Value.func (.func 30) #[] #[])) [(.t 34)])⟩ ::
⟨(some 30), none, (.op (.mv (.t 35)))⟩ ::
⟨(some 36), none, (.op (.extract (.t 30) 0))⟩ ::
⟨(some 37), none, (.op (.extract (.t 30) 1))⟩ ::
⟨(some 10), none, (.op (.mv (.t 36)))⟩ ::
⟨(some 11), none, (.op (.mv (.t 37)))⟩ :: [])) (.seq (.reg (
    ⟨(some 38), none, (.op (.mv (.t 11)))⟩ :: [])) (.cond (.t 38) (.reg (
    ⟨(some 39), none, (.op (.mv (.t 8)))⟩ ::
⟨(some 40), none, (.op (.mv (.t 9)))⟩ ::
⟨(some 41), none, (.op (.bslice [Value.int .i64 0] [(0, 1, (.t 40))] 1 3))⟩ ::
⟨(some 42), none, (.op (.append 3 1 8 (.t 39) (.t 41)))⟩ ::
⟨(some 8), none, (.op (.mv (.t 42)))⟩ :: [])) .skip))))) (.reg (
    ⟨(some 43), none, (.op (.int .add (.t 27) (.c (Value.int .i64 1))))⟩ ::
⟨(some 27), none, (.op (.mv (.t 43)))⟩ :: [])))))))) (.seq (.reg (
    ⟨(some 44), none, (.op (.mv (.t 8)))⟩ ::
⟨(some 2), none, (.op (.mv (.t 44)))⟩ ::
⟨(some 3), none, (.op (.mv (.c (Value.int .i64 0))))⟩ :: [])) .ret)))))))
def r17 : List ResultVar := [.tmp 2, .tmp 3]
set_option maxRecDepth 1000000 in
set_option maxHeartbeats 4000000 in
theorem fun17 : Fun Try.prog 17 45 1 a17 r17 :=
  ⟨rfl, Try.f17, _, rfl, rfl, rfl, by decide, rfl, rfl, rfl⟩
/-- tumblehome/agree.Truth -/
noncomputable def a18 : ACode := (.seq (.reg (
    ⟨(some 1), none, (.op (.box (.t 0) 26))⟩ ::
⟨(some 2), none, (.op (.alloc [Value.slice none 0 0, Value.slice none 0 0] 29))⟩ ::
⟨(some 3), none, (.op (.mv (.c (Value.int .i64 0))))⟩ :: [])) (.seq (.seq (.reg (
    ⟨(some 7), none, (.op (.loadn 5 (.t 1)))⟩ ::
⟨(some 8), none, (.call (.c (Value.func (.func 34) #[] #[])) [(.t 7)])⟩ ::
⟨(some 4), none, (.op (.mv (.t 8)))⟩ :: [])) (.seq (.reg (
    ⟨(some 9), none, (.op (.mv (.t 4)))⟩ ::
⟨(some 10), none, (.op (.int .neq (.t 9) (.c (Value.int .i64 0))))⟩ :: [])) (.cond (.t 10) (.seq (.reg (
    ⟨(some 11), none, (.op (.build [Value.slice none 0 0, Value.slice none 0 0] []))⟩ ::
⟨(some 12), none, (.op (.mv (.t 4)))⟩ ::
⟨none, none, (.op (.store 2 (.t 2) (.t 11)))⟩ ::
⟨(some 3), none, (.op (.mv (.t 12)))⟩ :: [])) .ret) .skip))) (.seq (.reg (
    ⟨(some 14), none, (.op (.loadn 5 (.t 1)))⟩ ::
⟨(some 15), none, (.call (.c (Value.func (.func 37) #[] #[])) [(.t 14)])⟩ ::
⟨(some 16), none, (.call (.c (Value.func (.func 30) #[] #[])) [(.t 15)])⟩ ::
⟨(some 13), none, (.op (.mv (.t 16)))⟩ ::
⟨(some 17), none, (.op (.extract (.t 13) 0))⟩ ::
⟨(some 18), none, (.op (.extract (.t 13) 1))⟩ ::
⟨(some 5), none, (.op (.mv (.t 17)))⟩ ::
⟨(some 6), none, (.op (.mv (.t 18)))⟩ :: [])) (.seq (.seq (.reg (
    ⟨(some 19), none, (.op (.mv (.t 6)))⟩ ::
⟨(some 20), none, (.op (.not (.t 19)))⟩ :: [])) (.cond (.t 20) (.seq (.reg (
    ⟨(some 21), none, (.op (.build [Value.slice none 0 0, Value.slice none 0 0] []))⟩ ::
⟨none, none, (.op (.store 2 (.t 2) (.t 21)))⟩ ::
⟨(some 3), none, (.op (.mv (.c (Value.int .i64 20))))⟩ :: [])) .ret) .skip)) (.seq (.reg (
    ⟨(some 22), none, (.op (.mv (.t 5)))⟩ ::
⟨(some 23), none, (.call (.c (Value.func (.func 31) #[] #[])) [(.t 22), (.c (Value.int .i64 1))])⟩ ::
⟨none, none, (.op (.store 2 (.t 2) (.t 23)))⟩ ::
⟨(some 3), none, (.op (.mv (.c (Value.int .i64 0))))⟩ :: [])) .ret)))))
def r18 : List ResultVar := [.cell 2 29, .tmp 3]
set_option maxRecDepth 1000000 in
set_option maxHeartbeats 4000000 in
theorem fun18 : Fun Try.prog 18 24 1 a18 r18 :=
  ⟨rfl, Try.f18, _, rfl, rfl, rfl, by decide, rfl, rfl, rfl⟩
/-- tumblehome/tumblehomeref09.Without -/
noncomputable def a19 : ACode := (.seq (.reg (
    ⟨(some 2), none, (.op (.box (.t 0) 26))⟩ ::
⟨(some 4), none, (.op (.alloc [Value.int .i64 0, Value.int .i64 0, Value.int .i64 0, Value.int .i64 0, Value.slice none 0 0] 26))⟩ :: [])) (.seq (.reg (
    ⟨(some 7), none, (.op (.faddr 0 (.t 2)))⟩ ::
⟨(some 8), none, (.op (.load1 (.t 7)))⟩ ::
⟨(some 9), none, (.op (.faddr 1 (.t 2)))⟩ ::
⟨(some 10), none, (.op (.load1 (.t 9)))⟩ ::
⟨(some 11), none, (.op (.faddr 2 (.t 2)))⟩ ::
⟨(some 12), none, (.op (.loadn 2 (.t 11)))⟩ ::
⟨(some 13), none, (.op (.build [Value.int .i64 0, Value.int .i64 0, Value.int .i64 0, Value.int .i64 0, Value.slice none 0 0] [(0, 1, (.t 8)), (1, 1, (.t 10)), (2, 2, (.t 12))]))⟩ ::
⟨(some 5), none, (.op (.alloc [Value.int .i64 0, Value.int .i64 0, Value.int .i64 0, Value.int .i64 0, Value.slice none 0 0] 26))⟩ ::
⟨none, none, (.op (.store 5 (.t 5) (.t 13)))⟩ :: [])) (.seq (.seq (.reg (
    ⟨(some 6), none, (.op (.mv (.c (Value.int .i64 0))))⟩ :: [])) (.block 0 (.loop (.seq (.seq (.reg (
    ⟨(some 14), none, (.op (.mv (.t 6)))⟩ ::
⟨(some 15), none, (.op (.faddr 4 (.t 2)))⟩ ::
⟨(some 16), none, (.op (.load1 (.t 15)))⟩ ::
⟨(some 17), none, (.op (.len (.t 16)))⟩ ::
⟨(some 18), none, (.op (.int .lss (.t 14) (.t 17)))⟩ :: [])) (.cond (.t 18) .skip (.exit 0))) (.seq (.block 1 (.seq (.reg (
    ⟨(some 21), none, (.op (.faddr 4 (.t 2)))⟩ ::
⟨(some 22), none, (.op (.load1 (.t 21)))⟩ ::
⟨(some 23), none, (.op (.mv (.t 6)))⟩ ::
⟨(some 24), none, (.op (.ixsl 4 (.t 22) (.t 23)))⟩ ::
⟨(some 25), none, (.op (.faddr 0 (.t 24)))⟩ ::
⟨(some 26), none, (.op (.load1 (.t 25)))⟩ ::
⟨(some 27), none, (.op (.mv (.t 1)))⟩ ::
⟨(some 28), none, (.op (.int .neq (.t 26) (.t 27)))⟩ :: [])) (.cond (.t 28) (.dreg (
    ⟨(some 29), none, (.op (.faddr 4 (.t 5)))⟩ ::
⟨(some 30), none, (.op (.load1 (.t 29)))⟩ ::
⟨(some 31), none, (.op (.faddr 4 (.t 2)))⟩ ::
⟨(some 32), none, (.op (.load1 (.t 31)))⟩ ::
⟨(some 33), none, (.op (.mv (.t 6)))⟩ ::
⟨(some 34), none, (.op (.ixsl 4 (.t 32) (.t 33)))⟩ ::
⟨(some 35), none, (.op (.loadn 4 (.t 34)))⟩ ::
⟨(some 36), none, (.op (.bslice [Value.int .i64 0, Value.int .i64 0, Value.int .i64 0, Value.int .i64 0] [(0, 4, (.t 35))] 1 42))⟩ ::
⟨(some 37), none, (.op (.append 42 4 32 (.t 30) (.t 36)))⟩ ::
⟨(some 38), none, (.op (.faddr 4 (.t 5)))⟩ ::
⟨none, none, (.op (.store 1 (.t 38) (.t 37)))⟩ :: []) []) .skip))) (.reg (
    ⟨(some 19), none, (.op (.mv (.t 6)))⟩ ::
⟨(some 20), none, (.op (.int .add (.t 19) (.c (Value.int .i64 1))))⟩ ::
⟨(some 6), none, (.op (.mv (.t 20)))⟩ :: []))))))) (.seq (.reg (
    ⟨(some 39), none, (.op (.loadn 5 (.t 5)))⟩ ::
⟨none, none, (.op (.store 5 (.t 4) (.t 39)))⟩ :: [])) .ret))))
def r19 : List ResultVar := [.cell 4 26]
set_option maxRecDepth 1000000 in
set_option maxHeartbeats 4000000 in
theorem fun19 : Fun Try.prog 19 40 2 a19 r19 :=
  ⟨rfl, Try.f19, _, rfl, rfl, rfl, by decide, rfl, rfl, rfl⟩
/-- tumblehome/tumblehomelaw09.Table -/
noncomputable def a20 : ACode := (.seq (.reg (
    ⟨(some 0), none, (.op (.alloc [Value.int .i64 0, Value.int .i64 0, Value.int .i64 0, Value.int .i64 0, Value.slice none 0 0] 26))⟩ :: [])) (.seq (.reg (
    ⟨(some 1), none, (.op (.build [Value.int .i64 0, Value.int .i64 0] [(0, 1, (.c (Value.int .i64 (-3)))), (1, 1, (.c (Value.int .i64 3)))]))⟩ ::
⟨(some 2), none, (.op (.build [Value.int .i64 0, Value.int .i64 0] [(0, 1, (.c (Value.int .i64 100))), (1, 1, (.c (Value.int .i64 102)))]))⟩ ::
⟨(some 3), none, (.op (.build [Value.int .i64 0, Value.int .i64 0, Value.int .i64 0, Value.int .i64 0] [(0, 1, (.c (Value.int .i64 0))), (1, 1, (.c (Value.int .i64 0))), (2, 2, (.t 2))]))⟩ ::
⟨(some 4), none, (.op (.build [Value.int .i64 0, Value.int .i64 0] [(0, 1, (.c (Value.int .i64 50))), (1, 1, (.c (Value.int .i64 51)))]))⟩ ::
⟨(some 5), none, (.op (.build [Value.int .i64 0, Value.int .i64 0, Value.int .i64 0, Value.int .i64 0] [(0, 1, (.c (Value.int .i64 0))), (1, 1, (.c (Value.int .i64 1))), (2, 2, (.t 4))]))⟩ ::
⟨(some 6), none, (.op (.build [Value.int .i64 0, Value.int .i64 0] [(0, 1, (.c (Value.int .i64 105))), (1, 1, (.c (Value.int .i64 106)))]))⟩ ::
⟨(some 7), none, (.op (.build [Value.int .i64 0, Value.int .i64 0, Value.int .i64 0, Value.int .i64 0] [(0, 1, (.c (Value.int .i64 1))), (1, 1, (.c (Value.int .i64 0))), (2, 2, (.t 6))]))⟩ ::
⟨(some 8), none, (.op (.bslice [Value.int .i64 0, Value.int .i64 0, Value.int .i64 0, Value.int .i64 0, Value.int .i64 0, Value.int .i64 0, Value.int .i64 0, Value.int .i64 0, Value.int .i64 0, Value.int .i64 0, Value.int .i64 0, Value.int .i64 0] [(0, 4, (.t 3)), (4, 4, (.t 5)), (8, 4, (.t 7))] 3 42))⟩ ::
⟨(some 9), none, (.op (.build [Value.int .i64 0, Value.int .i64 0, Value.int .i64 0, Value.int .i64 0, Value.slice none 0 0] [(0, 1, (.c (Value.int .i64 2))), (1, 1, (.c (Value.int .i64 2))), (2, 2, (.t 1)), (4, 1, (.t 8))]))⟩ ::
⟨none, none, (.op (.store 5 (.t 0) (.t 9)))⟩ :: [])) .ret))
def r20 : List ResultVar := [.cell 0 26]
set_option maxRecDepth 1000000 in
set_option maxHeartbeats 4000000 in
theorem fun20 : Fun Try.prog 20 10 0 a20 r20 :=
  ⟨rfl, Try.f20, _, rfl, rfl, rfl, by decide, rfl, rfl, rfl⟩
/-- tumblehome/tumblehomelaw09.Worse -/
noncomputable def a21 : ACode := (.seq (.reg (
    ⟨(some 0), none, (.op (.alloc [Value.int .i64 0, Value.int .i64 0, Value.int .i64 0, Value.int .i64 0, Value.slice none 0 0] 26))⟩ :: [])) (.seq (.reg (
    ⟨(some 2), none, (.call (.c (Value.func (.func 20) #[] #[])) [])⟩ ::
⟨(some 1), none, (.op (.alloc [Value.int .i64 0, Value.int .i64 0, Value.int .i64 0, Value.int .i64 0, Value.slice none 0 0] 26))⟩ ::
⟨none, none, (.op (.store 5 (.t 1) (.t 2)))⟩ :: [])) (.seq (.reg (
    ⟨(some 3), none, (.op (.faddr 4 (.t 1)))⟩ ::
⟨(some 4), none, (.op (.load1 (.t 3)))⟩ ::
⟨(some 5), none, (.op (.build [Value.int .i64 0, Value.int .i64 0] [(0, 1, (.c (Value.int .i64 60))), (1, 1, (.c (Value.int .i64 61)))]))⟩ ::
⟨(some 6), none, (.op (.build [Value.int .i64 0, Value.int .i64 0, Value.int .i64 0, Value.int .i64 0] [(0, 1, (.c (Value.int .i64 1))), (1, 1, (.c (Value.int .i64 1))), (2, 2, (.t 5))]))⟩ ::
⟨(some 7), none, (.op (.bslice [Value.int .i64 0, Value.int .i64 0, Value.int .i64 0, Value.int .i64 0] [(0, 4, (.t 6))] 1 42))⟩ ::
⟨(some 8), none, (.op (.append 42 4 32 (.t 4) (.t 7)))⟩ ::
⟨(some 9), none, (.op (.faddr 4 (.t 1)))⟩ ::
⟨none, none, (.op (.store 1 (.t 9) (.t 8)))⟩ :: [])) (.seq (.reg (
    ⟨(some 10), none, (.op (.loadn 5 (.t 1)))⟩ ::
⟨none, none, (.op (.store 5 (.t 0) (.t 10)))⟩ :: [])) .ret))))
def r21 : List ResultVar := [.cell 0 26]
set_option maxRecDepth 1000000 in
set_option maxHeartbeats 4000000 in
theorem fun21 : Fun Try.prog 21 11 0 a21 r21 :=
  ⟨rfl, Try.f21, _, rfl, rfl, rfl, by decide, rfl, rfl, rfl⟩
/-- tumblehome/agree.CheckRing -/
noncomputable def a22 : ACode := (.seq (.reg (
    ⟨(some 2), none, (.op (.box (.t 0) 26))⟩ ::
⟨(some 4), none, (.op (.mv (.c (Value.int .i64 0))))⟩ ::
⟨(some 5), none, (.op (.mv (.c (Value.int .i64 0))))⟩ :: [])) (.seq (.seq (.reg (
    ⟨(some 13), none, (.op (.loadn 5 (.t 2)))⟩ ::
⟨(some 14), none, (.call (.c (Value.func (.func 34) #[] #[])) [(.t 13)])⟩ ::
⟨(some 6), none, (.op (.mv (.t 14)))⟩ :: [])) (.seq (.reg (
    ⟨(some 15), none, (.op (.mv (.t 6)))⟩ ::
⟨(some 16), none, (.op (.int .neq (.t 15) (.c (Value.int .i64 0))))⟩ :: [])) (.cond (.t 16) (.seq (.reg (
    ⟨(some 17), none, (.op (.mv (.t 6)))⟩ ::
⟨(some 4), none, (.op (.mv (.c (Value.int .i64 0))))⟩ ::
⟨(some 5), none, (.op (.mv (.t 17)))⟩ :: [])) .ret) .skip))) (.seq (.reg (
    ⟨(some 18), none, (.op (.loadn 5 (.t 2)))⟩ ::
⟨(some 19), none, (.call (.c (Value.func (.func 37) #[] #[])) [(.t 18)])⟩ ::
⟨(some 7), none, (.op (.alloc [Value.pointer none] 62))⟩ ::
⟨none, none, (.op (.store 1 (.t 7) (.t 19)))⟩ :: [])) (.seq (.block 0 (.seq (.reg (
    ⟨(some 21), none, (.op (.mv (.t 1)))⟩ ::
⟨(some 22), none, (.op (.len (.t 21)))⟩ ::
⟨(some 23), none, (.op (.int .lss (.t 22) (.c (Value.int .i64 2))))⟩ ::
⟨(some 24), none, (.op (.mv (.t 23)))⟩ ::
⟨(some 25), (some (24, false)), (.op (.mv (.t 1)))⟩ ::
⟨(some 26), (some (24, false)), (.op (.len (.t 25)))⟩ ::
⟨(some 27), (some (24, false)), (.op (.int .gtr (.t 26) (.c (Value.int .i64 4096))))⟩ ::
⟨(some 28), none, (.op (.pick (.t 24) (.c (Value.bool true)) (.t 27)))⟩ ::
⟨(some 20), none, (.op (.mv (.t 28)))⟩ :: [])) (.cond (.t 20) (.seq (.reg (
    ⟨(some 4), none, (.op (.mv (.c (Value.int .i64 0))))⟩ ::
⟨(some 5), none, (.op (.mv (.c (Value.int .i64 6))))⟩ :: [])) .ret) (.seq (.reg (
    ⟨(some 30), none, (.op (.mv (.t 1)))⟩ ::
⟨(some 31), none, (.op (.mkfn (Fn.func 40) [] [(.t 7)]))⟩ ::
⟨(some 32), none, (.call (.c (Value.func (.func 39) #[] #[])) [(.t 30), (.t 31)])⟩ ::
⟨(some 29), none, (.op (.mv (.t 32)))⟩ :: [])) (.cond (.t 29) (.seq (.reg (
    ⟨(some 4), none, (.op (.mv (.c (Value.int .i64 0))))⟩ ::
⟨(some 5), none, (.op (.mv (.c (Value.int .i64 3))))⟩ :: [])) .ret) .skip))))) (.seq (.reg (
    ⟨(some 8), none, (.op (.mv (.c (Value.slice none 0 0))))⟩ :: [])) (.seq (.seq (.reg (
    ⟨(some 33), none, (.op (.mv (.t 1)))⟩ ::
⟨(some 34), none, (.op (.slsl 1 (.t 33) (some (.c (Value.int .i64 1))) none none))⟩ ::
⟨(some 35), none, (.op (.len (.t 34)))⟩ ::
⟨(some 36), none, (.op (.mv (.c (Value.int .i64 0))))⟩ :: [])) (.block 1 (.loop (.seq (.reg (
    ⟨(some 37), none, (.op (.int .lss (.t 36) (.t 35)))⟩ :: [])) (.seq (.cond (.t 37) .skip (.exit 1)) (.seq (.block 2 (.seq (.reg (
    ⟨(some 38), none, (.op (.mv (.t 36)))⟩ ::
⟨(some 39), none, (.op (.ixsl 1 (.t 34) (.t 36)))⟩ ::
⟨(some 40), none, (.op (.load1 (.t 39)))⟩ ::
⟨(some 9), none, (.op (.mv (.t 38)))⟩ ::
⟨(some 10), none, (.op (.mv (.t 40)))⟩ :: [])) (.seq (.dreg (
    ⟨(some 41), none, (.op (.load1 (.t 7)))⟩ ::
⟨(some 42), none, (.op (.mv (.t 1)))⟩ ::
⟨(some 43), none, (.op (.mv (.t 9)))⟩ ::
⟨(some 44), none, (.op (.ixsl 1 (.t 42) (.t 43)))⟩ ::
⟨(some 45), none, (.op (.load1 (.t 44)))⟩ ::
⟨(some 46), none, (.op (.mv (.t 10)))⟩ ::
⟨(some 47), none, (.op (.nilck (.t 41)))⟩ ::
⟨(some 48), none, (.op (.faddr 6 (.t 47)))⟩ ::
⟨(some 49), none, (.op (.ixarr 13 26 (.t 48) (.t 45)))⟩ ::
⟨(some 50), none, (.op (.ixarr 13 2 (.t 49) (.t 46)))⟩ ::
⟨(some 51), none, (.op (.loadn 2 (.t 50)))⟩ ::
⟨(some 11), none, (.op (.alloc [Value.bool false, Value.int .i64 0] 78))⟩ ::
⟨none, none, (.op (.store 2 (.t 11) (.t 51)))⟩ :: []) []) (.seq (.seq (.reg (
    ⟨(some 52), none, (.op (.loadn 2 (.t 11)))⟩ ::
⟨(some 53), none, (.op (.build [Value.bool false, Value.int .i64 0] []))⟩ ::
⟨(some 54), none, (.op (.pure (rawOp Try.f22 14 2)))⟩ :: [])) (.cond (.t 54) (.seq (.reg (
    ⟨(some 4), none, (.op (.mv (.c (Value.int .i64 0))))⟩ ::
⟨(some 5), none, (.op (.mv (.c (Value.int .i64 16))))⟩ :: [])) .ret) .skip)) (.reg (
    ⟨(some 55), none, (.op (.mv (.t 8)))⟩ ::
⟨(some 56), none, (.op (.faddr 1 (.t 11)))⟩ ::
⟨(some 57), none, (.op (.load1 (.t 56)))⟩ ::
⟨(some 58), none, (.op (.bslice [Value.int .i64 0] [(0, 1, (.t 57))] 1 2))⟩ ::
⟨(some 59), none, (.op (.append 2 1 8 (.t 55) (.t 58)))⟩ ::
⟨(some 8), none, (.op (.mv (.t 59)))⟩ :: [])))))) (.reg (
    ⟨(some 60), none, (.op (.int .add (.t 36) (.c (Value.int .i64 1))))⟩ ::
⟨(some 36), none, (.op (.mv (.t 60)))⟩ :: [])))))))) (.seq (.reg (
    ⟨(some 61), none, (.op (.mv (.t 8)))⟩ ::
⟨(some 62), none, (.call (.c (Value.func (.func 41) #[] #[])) [(.t 61)])⟩ ::
⟨(some 12), none, (.op (.mv (.t 62)))⟩ :: [])) (.block 3 (.seq (.dreg (
    ⟨(some 65), none, (.op (.mv (.t 1)))⟩ ::
⟨(some 66), none, (.op (.ixsl 1 (.t 65) (.c (Value.int .i64 0))))⟩ ::
⟨(some 67), none, (.op (.load1 (.t 66)))⟩ ::
⟨(some 68), none, (.op (.mv (.t 1)))⟩ ::
⟨(some 69), none, (.op (.mv (.t 1)))⟩ ::
⟨(some 70), none, (.op (.len (.t 69)))⟩ ::
⟨(some 71), none, (.op (.int .sub (.t 70) (.c (Value.int .i64 1))))⟩ ::
⟨(some 72), none, (.op (.ixsl 1 (.t 68) (.t 71)))⟩ ::
⟨(some 73), none, (.op (.load1 (.t 72)))⟩ ::
⟨(some 74), none, (.op (.int .neq (.t 67) (.t 73)))⟩ ::
⟨(some 64), none, (.op (.mv (.t 74)))⟩ :: []) []) (.cond (.t 64) (.seq (.reg (
    ⟨(some 4), none, (.op (.mv (.c (Value.int .i64 0))))⟩ ::
⟨(some 5), none, (.op (.mv (.c (Value.int .i64 16))))⟩ :: [])) .ret) (.seq (.reg (
    ⟨(some 76), none, (.op (.mv (.t 12)))⟩ ::
⟨(some 77), none, (.op (.int .geq (.t 76) (.c (Value.int .i64 0))))⟩ ::
⟨(some 75), none, (.op (.mv (.t 77)))⟩ :: [])) (.cond (.t 75) (.seq (.reg (
    ⟨(some 4), none, (.op (.mv (.c (Value.int .i64 0))))⟩ ::
⟨(some 5), none, (.op (.mv (.c (Value.int .i64 14))))⟩ :: [])) .ret) (.seq (.reg (
    ⟨(some 63), none, (.op (.mv (.t 12)))⟩ ::
⟨(some 4), none, (.op (.mv (.t 63)))⟩ ::
⟨(some 5), none, (.op (.mv (.c (Value.int .i64 0))))⟩ :: [])) .ret)))))))))))))
def r22 : List ResultVar := [.tmp 4, .tmp 5]
set_option maxRecDepth 1000000 in
set_option maxHeartbeats 4000000 in
theorem fun22 : Fun Try.prog 22 78 2 a22 r22 :=
  ⟨rfl, Try.f22, _, rfl, rfl, rfl, by decide, rfl, rfl, rfl⟩
/-- tumblehome/agree.Ring -/
noncomputable def a23 : ACode := (.seq (.reg (
    ⟨(some 1), none, (.op (.box (.t 0) 26))⟩ ::
⟨(some 2), none, (.op (.mv (.c (Value.slice none 0 0))))⟩ ::
⟨(some 3), none, (.op (.mv (.c (Value.int .i64 0))))⟩ :: [])) (.seq (.seq (.reg (
    ⟨(some 7), none, (.op (.loadn 5 (.t 1)))⟩ ::
⟨(some 8), none, (.call (.c (Value.func (.func 34) #[] #[])) [(.t 7)])⟩ ::
⟨(some 4), none, (.op (.mv (.t 8)))⟩ :: [])) (.seq (.reg (
    ⟨(some 9), none, (.op (.mv (.t 4)))⟩ ::
⟨(some 10), none, (.op (.int .neq (.t 9) (.c (Value.int .i64 0))))⟩ :: [])) (.cond (.t 10) (.seq (.reg (
    ⟨(some 11), none, (.op (.mv (.t 4)))⟩ ::
⟨(some 2), none, (.op (.mv (.c (Value.slice none 0 0))))⟩ ::
⟨(some 3), none, (.op (.mv (.t 11)))⟩ :: [])) .ret) .skip))) (.seq (.reg (
    ⟨(some 13), none, (.op (.loadn 5 (.t 1)))⟩ ::
⟨(some 14), none, (.call (.c (Value.func (.func 37) #[] #[])) [(.t 13)])⟩ ::
⟨(some 15), none, (.call (.c (Value.func (.func 30) #[] #[])) [(.t 14)])⟩ ::
⟨(some 12), none, (.op (.mv (.t 15)))⟩ ::
⟨(some 16), none, (.op (.extract (.t 12) 0))⟩ ::
⟨(some 17), none, (.op (.extract (.t 12) 1))⟩ ::
⟨(some 5), none, (.op (.mv (.t 16)))⟩ ::
⟨(some 6), none, (.op (.mv (.t 17)))⟩ :: [])) (.seq (.seq (.reg (
    ⟨(some 18), none, (.op (.mv (.t 6)))⟩ :: [])) (.cond (.t 18) (.seq (.reg (
    ⟨(some 2), none, (.op (.mv (.c (Value.slice none 0 0))))⟩ ::
⟨(some 3), none, (.op (.mv (.c (Value.int .i64 5))))⟩ :: [])) .ret) .skip)) (.seq (.reg (
    ⟨(some 19), none, (.op (.mv (.t 5)))⟩ ::
⟨(some 20), none, (.call (.c (Value.func (.func 42) #[] #[])) [(.t 19)])⟩ ::
⟨(some 2), none, (.op (.mv (.t 20)))⟩ ::
⟨(some 3), none, (.op (.mv (.c (Value.int .i64 0))))⟩ :: [])) .ret)))))
def r23 : List ResultVar := [.tmp 2, .tmp 3]
set_option maxRecDepth 1000000 in
set_option maxHeartbeats 4000000 in
theorem fun23 : Fun Try.prog 23 21 1 a23 r23 :=
  ⟨rfl, Try.f23, _, rfl, rfl, rfl, by decide, rfl, rfl, rfl⟩
/-- tumblehome/tumblehomelaw09.great -/
noncomputable def a24 : ACode := (.seq (.reg (
    ⟨(some 1), none, (.op (.box (.t 0) 26))⟩ ::
⟨(some 2), none, (.op (.mv (.c (Value.bool false))))⟩ :: [])) (.seq (.reg (
    ⟨(some 3), none, (.op (.faddr 4 (.t 1)))⟩ ::
⟨(some 4), none, (.op (.load1 (.t 3)))⟩ ::
⟨(some 5), none, (.op (.len (.t 4)))⟩ ::
⟨(some 6), none, (.op (.int .gtr (.t 5) (.c (Value.int .i64 30))))⟩ ::
⟨(some 2), none, (.op (.mv (.t 6)))⟩ :: [])) .ret))
def r24 : List ResultVar := [.tmp 2]
set_option maxRecDepth 1000000 in
set_option maxHeartbeats 4000000 in
theorem fun24 : Fun Try.prog 24 7 1 a24 r24 :=
  ⟨rfl, Try.f24, _, rfl, rfl, rfl, by decide, rfl, rfl, rfl⟩
/-- tumblehome/tumblehomeref09.CheckTable -/
noncomputable def a25 : ACode := (.seq (.reg (
    ⟨(some 1), none, (.op (.box (.t 0) 26))⟩ ::
⟨(some 2), none, (.op (.mv (.c (Value.int .i64 0))))⟩ :: [])) (.seq (.seq (.reg (
    ⟨(some 6), none, (.op (.faddr 4 (.t 1)))⟩ ::
⟨(some 7), none, (.op (.load1 (.t 6)))⟩ ::
⟨(some 8), none, (.op (.len (.t 7)))⟩ ::
⟨(some 9), none, (.op (.int .gtr (.t 8) (.c (Value.int .i64 24))))⟩ :: [])) (.cond (.t 9) (.seq (.reg (
    ⟨(some 2), none, (.op (.mv (.c (Value.int .i64 6))))⟩ :: [])) .ret) .skip)) (.seq (.seq (.reg (
    ⟨(some 10), none, (.op (.faddr 0 (.t 1)))⟩ ::
⟨(some 11), none, (.op (.load1 (.t 10)))⟩ ::
⟨(some 12), none, (.op (.int .lss (.t 11) (.c (Value.int .i64 1))))⟩ ::
⟨(some 13), none, (.op (.mv (.t 12)))⟩ ::
⟨(some 14), (some (13, false)), (.op (.faddr 0 (.t 1)))⟩ ::
⟨(some 15), (some (13, false)), (.op (.load1 (.t 14)))⟩ ::
⟨(some 16), (some (13, false)), (.op (.int .gtr (.t 15) (.c (Value.int .i64 6))))⟩ ::
⟨(some 17), none, (.op (.pick (.t 13) (.c (Value.bool true)) (.t 16)))⟩ ::
⟨(some 18), none, (.op (.mv (.t 17)))⟩ ::
⟨(some 19), (some (18, false)), (.op (.faddr 1 (.t 1)))⟩ ::
⟨(some 20), (some (18, false)), (.op (.load1 (.t 19)))⟩ ::
⟨(some 21), (some (18, false)), (.op (.int .lss (.t 20) (.c (Value.int .i64 1))))⟩ ::
⟨(some 22), none, (.op (.pick (.t 18) (.c (Value.bool true)) (.t 21)))⟩ ::
⟨(some 23), none, (.op (.mv (.t 22)))⟩ ::
⟨(some 24), (some (23, false)), (.op (.faddr 1 (.t 1)))⟩ ::
⟨(some 25), (some (23, false)), (.op (.load1 (.t 24)))⟩ ::
⟨(some 26), (some (23, false)), (.op (.int .gtr (.t 25) (.c (Value.int .i64 6))))⟩ ::
⟨(some 27), none, (.op (.pick (.t 23) (.c (Value.bool true)) (.t 26)))⟩ ::
⟨(some 28), none, (.op (.mv (.t 27)))⟩ ::
⟨(some 29), (some (28, false)), (.op (.faddr 2 (.t 1)))⟩ ::
⟨(some 30), (some (28, false)), (.op (.loadn 2 (.t 29)))⟩ ::
⟨(some 31), (some (28, false)), (.call (.c (Value.func (.func 43) #[] #[])) [(.t 30)])⟩ ::
⟨(some 32), (some (28, false)), (.op (.not (.t 31)))⟩ ::
⟨(some 33), none, (.op (.pick (.t 28) (.c (Value.bool true)) (.t 32)))⟩ :: [])) (.cond (.t 33) (.seq (.reg (
    ⟨(some 2), none, (.op (.mv (.c (Value.int .i64 2))))⟩ :: [])) .ret) .skip)) (.seq (.seq (.reg (
    ⟨(some 3), none, (.op (.mv (.c (Value.int .i64 0))))⟩ :: [])) (.block 0 (.loop (.seq (.seq (.reg (
    ⟨(some 34), none, (.op (.mv (.t 3)))⟩ ::
⟨(some 35), none, (.op (.faddr 4 (.t 1)))⟩ ::
⟨(some 36), none, (.op (.load1 (.t 35)))⟩ ::
⟨(some 37), none, (.op (.len (.t 36)))⟩ ::
⟨(some 38), none, (.op (.int .lss (.t 34) (.t 37)))⟩ :: [])) (.cond (.t 38) .skip (.exit 0))) (.seq (.block 1 (.seq (.reg (
    ⟨(some 41), none, (.op (.faddr 4 (.t 1)))⟩ ::
⟨(some 42), none, (.op (.load1 (.t 41)))⟩ ::
⟨(some 43), none, (.op (.mv (.t 3)))⟩ ::
⟨(some 44), none, (.op (.ixsl 4 (.t 42) (.t 43)))⟩ ::
⟨(some 45), none, (.op (.loadn 4 (.t 44)))⟩ ::
⟨(some 4), none, (.op (.alloc [Value.int .i64 0, Value.int .i64 0, Value.int .i64 0, Value.int .i64 0] 42))⟩ ::
⟨none, none, (.op (.store 4 (.t 4) (.t 45)))⟩ :: [])) (.seq (.reg (
    ⟨(some 46), none, (.op (.faddr 0 (.t 4)))⟩ ::
⟨(some 47), none, (.op (.load1 (.t 46)))⟩ ::
⟨(some 48), none, (.op (.int .lss (.t 47) (.c (Value.int .i64 0))))⟩ ::
⟨(some 49), none, (.op (.mv (.t 48)))⟩ ::
⟨(some 50), (some (49, false)), (.op (.faddr 0 (.t 4)))⟩ ::
⟨(some 51), (some (49, false)), (.op (.load1 (.t 50)))⟩ ::
⟨(some 52), (some (49, false)), (.op (.faddr 0 (.t 1)))⟩ ::
⟨(some 53), (some (49, false)), (.op (.load1 (.t 52)))⟩ ::
⟨(some 54), (some (49, false)), (.op (.int .geq (.t 51) (.t 53)))⟩ ::
⟨(some 55), none, (.op (.pick (.t 49) (.c (Value.bool true)) (.t 54)))⟩ ::
⟨(some 56), none, (.op (.mv (.t 55)))⟩ ::
⟨(some 57), (some (56, false)), (.op (.faddr 1 (.t 4)))⟩ ::
⟨(some 58), (some (56, false)), (.op (.load1 (.t 57)))⟩ ::
⟨(some 59), (some (56, false)), (.op (.int .lss (.t 58) (.c (Value.int .i64 0))))⟩ ::
⟨(some 60), none, (.op (.pick (.t 56) (.c (Value.bool true)) (.t 59)))⟩ ::
⟨(some 61), none, (.op (.mv (.t 60)))⟩ ::
⟨(some 62), (some (61, false)), (.op (.faddr 1 (.t 4)))⟩ ::
⟨(some 63), (some (61, false)), (.op (.load1 (.t 62)))⟩ ::
⟨(some 64), (some (61, false)), (.op (.faddr 1 (.t 1)))⟩ ::
⟨(some 65), (some (61, false)), (.op (.load1 (.t 64)))⟩ ::
⟨(some 66), (some (61, false)), (.op (.int .geq (.t 63) (.t 65)))⟩ ::
⟨(some 67), none, (.op (.pick (.t 61) (.c (Value.bool true)) (.t 66)))⟩ :: [])) (.cond (.t 67) (.seq (.reg (
    ⟨(some 2), none, (.op (.mv (.c (Value.int .i64 3))))⟩ :: [])) .ret) .skip)))) (.reg (
    ⟨(some 39), none, (.op (.mv (.t 3)))⟩ ::
⟨(some 40), none, (.op (.int .add (.t 39) (.c (Value.int .i64 1))))⟩ ::
⟨(some 3), none, (.op (.mv (.t 40)))⟩ :: []))))))) (.seq (.seq (.reg (
    ⟨(some 5), none, (.op (.mv (.c (Value.int .i64 0))))⟩ :: [])) (.block 2 (.loop (.seq (.seq (.reg (
    ⟨(some 68), none, (.op (.mv (.t 5)))⟩ ::
⟨(some 69), none, (.op (.faddr 4 (.t 1)))⟩ ::
⟨(some 70), none, (.op (.load1 (.t 69)))⟩ ::
⟨(some 71), none, (.op (.len (.t 70)))⟩ ::
⟨(some 72), none, (.op (.int .lss (.t 68) (.t 71)))⟩ :: [])) (.cond (.t 72) .skip (.exit 2))) (.seq (.block 3 (.seq (.reg (
    ⟨(some 75), none, (.op (.faddr 4 (.t 1)))⟩ ::
⟨(some 76), none, (.op (.load1 (.t 75)))⟩ ::
⟨(some 77), none, (.op (.mv (.t 5)))⟩ ::
⟨(some 78), none, (.op (.ixsl 4 (.t 76) (.t 77)))⟩ ::
⟨(some 79), none, (.op (.faddr 2 (.t 78)))⟩ ::
⟨(some 80), none, (.op (.loadn 2 (.t 79)))⟩ ::
⟨(some 81), none, (.call (.c (Value.func (.func 43) #[] #[])) [(.t 80)])⟩ ::
⟨(some 82), none, (.op (.not (.t 81)))⟩ :: [])) (.cond (.t 82) (.seq (.reg (
    ⟨(some 2), none, (.op (.mv (.c (Value.int .i64 2))))⟩ :: [])) .ret) .skip))) (.reg (
    ⟨(some 73), none, (.op (.mv (.t 5)))⟩ ::
⟨(some 74), none, (.op (.int .add (.t 73) (.c (Value.int .i64 1))))⟩ ::
⟨(some 5), none, (.op (.mv (.t 74)))⟩ :: []))))))) (.seq (.reg (
    ⟨(some 2), none, (.op (.mv (.c (Value.int .i64 0))))⟩ :: [])) .ret))))))
def r25 : List ResultVar := [.tmp 2]
set_option maxRecDepth 1000000 in
set_option maxHeartbeats 4000000 in
theorem fun25 : Fun Try.prog 25 83 1 a25 r25 :=
  ⟨rfl, Try.f25, _, rfl, rfl, rfl, by decide, rfl, rfl, rfl⟩
/-- tumblehome/tumblehomelaw09.ints -/
noncomputable def a26 : ACode := (.seq (.reg (
    ⟨(some 4), none, (.op (.mv (.c (Value.bool false))))⟩ :: [])) (.seq (.seq (.reg (
    ⟨(some 6), none, (.op (.mv (.t 0)))⟩ ::
⟨(some 7), none, (.op (.len (.t 6)))⟩ ::
⟨(some 8), none, (.op (.mv (.t 1)))⟩ ::
⟨(some 9), none, (.op (.len (.t 8)))⟩ ::
⟨(some 10), none, (.op (.int .neq (.t 7) (.t 9)))⟩ :: [])) (.cond (.t 10) (.seq (.reg (
    ⟨(some 4), none, (.op (.mv (.c (Value.bool false))))⟩ :: [])) .ret) .skip)) (.seq (.seq (.reg (
    ⟨(some 5), none, (.op (.mv (.c (Value.int .i64 0))))⟩ :: [])) (.block 0 (.loop (.seq (.seq (.reg (
    ⟨(some 11), none, (.op (.mv (.t 5)))⟩ ::
⟨(some 12), none, (.op (.mv (.t 0)))⟩ ::
⟨(some 13), none, (.op (.len (.t 12)))⟩ ::
⟨(some 14), none, (.op (.int .lss (.t 11) (.t 13)))⟩ :: [])) (.cond (.t 14) .skip (.exit 0))) (.seq (.block 1 (.seq (.dreg (
    ⟨(some 17), none, (.op (.mv (.t 0)))⟩ ::
⟨(some 18), none, (.op (.mv (.t 5)))⟩ ::
⟨(some 19), none, (.op (.ixsl 1 (.t 17) (.t 18)))⟩ ::
⟨(some 20), none, (.op (.load1 (.t 19)))⟩ ::
⟨(some 21), none, (.op (.mv (.t 1)))⟩ ::
⟨(some 22), none, (.op (.mv (.t 5)))⟩ ::
⟨(some 23), none, (.op (.ixsl 1 (.t 21) (.t 22)))⟩ ::
⟨(some 24), none, (.op (.load1 (.t 23)))⟩ ::
⟨(some 25), none, (.op (.int .neq (.t 20) (.t 24)))⟩ :: []) []) (.cond (.t 25) (.seq (.reg (
    ⟨(some 4), none, (.op (.mv (.c (Value.bool false))))⟩ :: [])) .ret) .skip))) (.reg (
    ⟨(some 15), none, (.op (.mv (.t 5)))⟩ ::
⟨(some 16), none, (.op (.int .add (.t 15) (.c (Value.int .i64 1))))⟩ ::
⟨(some 5), none, (.op (.mv (.t 16)))⟩ :: []))))))) (.seq (.reg (
    ⟨(some 4), none, (.op (.mv (.c (Value.bool true))))⟩ :: [])) .ret))))
def r26 : List ResultVar := [.tmp 4]
set_option maxRecDepth 1000000 in
set_option maxHeartbeats 4000000 in
theorem fun26 : Fun Try.prog 26 26 2 a26 r26 :=
  ⟨rfl, Try.f26, _, rfl, rfl, rfl, by decide, rfl, rfl, rfl⟩
/-- tumblehome/tumblehomeref09.CheckRing -/
noncomputable def a27 : ACode := (.seq (.reg (
    ⟨(some 2), none, (.op (.box (.t 0) 26))⟩ ::
⟨(some 4), none, (.op (.mv (.c (Value.int .i64 0))))⟩ ::
⟨(some 5), none, (.op (.mv (.c (Value.int .i64 0))))⟩ :: [])) (.seq (.seq (.reg (
    ⟨(some 11), none, (.op (.loadn 5 (.t 2)))⟩ ::
⟨(some 12), none, (.call (.c (Value.func (.func 25) #[] #[])) [(.t 11)])⟩ ::
⟨(some 13), none, (.op (.int .neq (.t 12) (.c (Value.int .i64 0))))⟩ :: [])) (.cond (.t 13) (.seq (.reg (
    ⟨(some 14), none, (.op (.loadn 5 (.t 2)))⟩ ::
⟨(some 15), none, (.call (.c (Value.func (.func 25) #[] #[])) [(.t 14)])⟩ ::
⟨(some 4), none, (.op (.mv (.c (Value.int .i64 0))))⟩ ::
⟨(some 5), none, (.op (.mv (.t 15)))⟩ :: [])) .ret) .skip)) (.seq (.seq (.reg (
    ⟨(some 16), none, (.op (.mv (.t 1)))⟩ ::
⟨(some 17), none, (.op (.len (.t 16)))⟩ ::
⟨(some 18), none, (.op (.int .lss (.t 17) (.c (Value.int .i64 2))))⟩ ::
⟨(some 19), none, (.op (.mv (.t 18)))⟩ ::
⟨(some 20), (some (19, false)), (.op (.mv (.t 1)))⟩ ::
⟨(some 21), (some (19, false)), (.op (.len (.t 20)))⟩ ::
⟨(some 22), (some (19, false)), (.op (.int .gtr (.t 21) (.c (Value.int .i64 4096))))⟩ ::
⟨(some 23), none, (.op (.pick (.t 19) (.c (Value.bool true)) (.t 22)))⟩ :: [])) (.cond (.t 23) (.seq (.reg (
    ⟨(some 4), none, (.op (.mv (.c (Value.int .i64 0))))⟩ ::
⟨(some 5), none, (.op (.mv (.c (Value.int .i64 6))))⟩ :: [])) .ret) .skip)) (.seq (.reg (
    ⟨(some 24), none, (.op (.loadn 5 (.t 2)))⟩ ::
⟨(some 25), none, (.call (.c (Value.func (.func 44) #[] #[])) [(.t 24)])⟩ ::
⟨(some 6), none, (.op (.mv (.t 25)))⟩ :: [])) (.seq (.seq (.reg (
    ⟨(some 7), none, (.op (.mv (.c (Value.int .i64 0))))⟩ :: [])) (.block 0 (.loop (.seq (.seq (.reg (
    ⟨(some 26), none, (.op (.mv (.t 7)))⟩ ::
⟨(some 27), none, (.op (.mv (.t 1)))⟩ ::
⟨(some 28), none, (.op (.len (.t 27)))⟩ ::
⟨(some 29), none, (.op (.int .lss (.t 26) (.t 28)))⟩ :: [])) (.cond (.t 29) .skip (.exit 0))) (.seq (.block 1 (.seq (.reg (
    ⟨(some 32), none, (.op (.mv (.t 1)))⟩ ::
⟨(some 33), none, (.op (.mv (.t 7)))⟩ ::
⟨(some 34), none, (.op (.ixsl 1 (.t 32) (.t 33)))⟩ ::
⟨(some 35), none, (.op (.load1 (.t 34)))⟩ ::
⟨(some 36), none, (.op (.int .lss (.t 35) (.c (Value.int .i64 0))))⟩ ::
⟨(some 37), none, (.op (.mv (.t 36)))⟩ ::
⟨(some 38), (some (37, false)), (.op (.mv (.t 1)))⟩ ::
⟨(some 39), (some (37, false)), (.op (.mv (.t 7)))⟩ ::
⟨(some 40), (some (37, false)), (.op (.ixsl 1 (.t 38) (.t 39)))⟩ ::
⟨(some 41), (some (37, false)), (.op (.load1 (.t 40)))⟩ ::
⟨(some 42), (some (37, false)), (.op (.mv (.t 6)))⟩ ::
⟨(some 43), (some (37, false)), (.op (.len (.t 42)))⟩ ::
⟨(some 44), (some (37, false)), (.op (.int .geq (.t 41) (.t 43)))⟩ ::
⟨(some 45), none, (.op (.pick (.t 37) (.c (Value.bool true)) (.t 44)))⟩ :: [])) (.cond (.t 45) (.seq (.reg (
    ⟨(some 4), none, (.op (.mv (.c (Value.int .i64 0))))⟩ ::
⟨(some 5), none, (.op (.mv (.c (Value.int .i64 3))))⟩ :: [])) .ret) .skip))) (.reg (
    ⟨(some 30), none, (.op (.mv (.t 7)))⟩ ::
⟨(some 31), none, (.op (.int .add (.t 30) (.c (Value.int .i64 1))))⟩ ::
⟨(some 7), none, (.op (.mv (.t 31)))⟩ :: []))))))) (.seq (.reg (
    ⟨(some 8), none, (.op (.mv (.c (Value.int .i64 0))))⟩ :: [])) (.seq (.seq (.reg (
    ⟨(some 9), none, (.op (.mv (.c (Value.int .i64 1))))⟩ :: [])) (.block 2 (.loop (.seq (.seq (.reg (
    ⟨(some 46), none, (.op (.mv (.t 9)))⟩ ::
⟨(some 47), none, (.op (.mv (.t 1)))⟩ ::
⟨(some 48), none, (.op (.len (.t 47)))⟩ ::
⟨(some 49), none, (.op (.int .lss (.t 46) (.t 48)))⟩ :: [])) (.cond (.t 49) .skip (.exit 2))) (.seq (.block 3 (.seq (.dreg (
    ⟨(some 52), none, (.op (.mv (.t 6)))⟩ ::
⟨(some 53), none, (.op (.mv (.t 1)))⟩ ::
⟨(some 54), none, (.op (.mv (.t 9)))⟩ ::
⟨(some 55), none, (.op (.int .sub (.t 54) (.c (Value.int .i64 1))))⟩ ::
⟨(some 56), none, (.op (.ixsl 1 (.t 53) (.t 55)))⟩ ::
⟨(some 57), none, (.op (.load1 (.t 56)))⟩ ::
⟨(some 58), none, (.op (.ixsl 1 (.t 52) (.t 57)))⟩ ::
⟨(some 59), none, (.op (.load1 (.t 58)))⟩ ::
⟨(some 60), none, (.op (.mv (.t 1)))⟩ ::
⟨(some 61), none, (.op (.mv (.t 9)))⟩ ::
⟨(some 62), none, (.op (.ixsl 1 (.t 60) (.t 61)))⟩ ::
⟨(some 63), none, (.op (.load1 (.t 62)))⟩ ::
⟨(some 64), none, (.op (.ixsl 1 (.t 59) (.t 63)))⟩ ::
⟨(some 65), none, (.op (.load1 (.t 64)))⟩ ::
⟨(some 10), none, (.op (.mv (.t 65)))⟩ :: []) []) (.seq (.seq (.reg (
    ⟨(some 66), none, (.op (.mv (.t 10)))⟩ ::
⟨(some 67), none, (.op (.int .eql (.t 66) (.c (Value.int .i64 1125899906842624))))⟩ :: [])) (.cond (.t 67) (.seq (.reg (
    ⟨(some 4), none, (.op (.mv (.c (Value.int .i64 0))))⟩ ::
⟨(some 5), none, (.op (.mv (.c (Value.int .i64 16))))⟩ :: [])) .ret) .skip)) (.reg (
    ⟨(some 68), none, (.op (.mv (.t 8)))⟩ ::
⟨(some 69), none, (.op (.mv (.t 10)))⟩ ::
⟨(some 70), none, (.op (.int .add (.t 68) (.t 69)))⟩ ::
⟨(some 8), none, (.op (.mv (.t 70)))⟩ :: []))))) (.reg (
    ⟨(some 50), none, (.op (.mv (.t 9)))⟩ ::
⟨(some 51), none, (.op (.int .add (.t 50) (.c (Value.int .i64 1))))⟩ ::
⟨(some 9), none, (.op (.mv (.t 51)))⟩ :: []))))))) (.seq (.seq (.dreg (
    ⟨(some 71), none, (.op (.mv (.t 1)))⟩ ::
⟨(some 72), none, (.op (.ixsl 1 (.t 71) (.c (Value.int .i64 0))))⟩ ::
⟨(some 73), none, (.op (.load1 (.t 72)))⟩ ::
⟨(some 74), none, (.op (.mv (.t 1)))⟩ ::
⟨(some 75), none, (.op (.mv (.t 1)))⟩ ::
⟨(some 76), none, (.op (.len (.t 75)))⟩ ::
⟨(some 77), none, (.op (.int .sub (.t 76) (.c (Value.int .i64 1))))⟩ ::
⟨(some 78), none, (.op (.ixsl 1 (.t 74) (.t 77)))⟩ ::
⟨(some 79), none, (.op (.load1 (.t 78)))⟩ ::
⟨(some 80), none, (.op (.int .neq (.t 73) (.t 79)))⟩ :: []) []) (.cond (.t 80) (.seq (.reg (
    ⟨(some 4), none, (.op (.mv (.c (Value.int .i64 0))))⟩ ::
⟨(some 5), none, (.op (.mv (.c (Value.int .i64 16))))⟩ :: [])) .ret) .skip)) (.seq (.seq (.reg (
    ⟨(some 81), none, (.op (.mv (.t 8)))⟩ ::
⟨(some 82), none, (.op (.int .geq (.t 81) (.c (Value.int .i64 0))))⟩ :: [])) (.cond (.t 82) (.seq (.reg (
    ⟨(some 4), none, (.op (.mv (.c (Value.int .i64 0))))⟩ ::
⟨(some 5), none, (.op (.mv (.c (Value.int .i64 14))))⟩ :: [])) .ret) .skip)) (.seq (.reg (
    ⟨(some 83), none, (.op (.mv (.t 8)))⟩ ::
⟨(some 4), none, (.op (.mv (.t 83)))⟩ ::
⟨(some 5), none, (.op (.mv (.c (Value.int .i64 0))))⟩ :: [])) .ret))))))))))
def r27 : List ResultVar := [.tmp 4, .tmp 5]
set_option maxRecDepth 1000000 in
set_option maxHeartbeats 4000000 in
theorem fun27 : Fun Try.prog 27 84 2 a27 r27 :=
  ⟨rfl, Try.f27, _, rfl, rfl, rfl, by decide, rfl, rfl, rfl⟩
/-- tumblehome/agree.hulls -/
noncomputable def a28 : ACode := (.seq (.reg (
    ⟨(some 2), none, (.op (.box (.t 0) 26))⟩ ::
⟨(some 4), none, (.op (.mv (.c (Value.pointer none))))⟩ ::
⟨(some 5), none, (.op (.mv (.c (Value.pointer none))))⟩ ::
⟨(some 6), none, (.op (.mv (.c (Value.int .i64 0))))⟩ :: [])) (.seq (.seq (.reg (
    ⟨(some 15), none, (.op (.loadn 5 (.t 2)))⟩ ::
⟨(some 16), none, (.call (.c (Value.func (.func 34) #[] #[])) [(.t 15)])⟩ ::
⟨(some 7), none, (.op (.mv (.t 16)))⟩ :: [])) (.seq (.reg (
    ⟨(some 17), none, (.op (.mv (.t 7)))⟩ ::
⟨(some 18), none, (.op (.int .neq (.t 17) (.c (Value.int .i64 0))))⟩ :: [])) (.cond (.t 18) (.seq (.reg (
    ⟨(some 19), none, (.op (.mv (.t 7)))⟩ ::
⟨(some 4), none, (.op (.mv (.c (Value.pointer none))))⟩ ::
⟨(some 5), none, (.op (.mv (.c (Value.pointer none))))⟩ ::
⟨(some 6), none, (.op (.mv (.t 19)))⟩ :: [])) .ret) .skip))) (.seq (.seq (.reg (
    ⟨(some 20), none, (.op (.mv (.t 1)))⟩ ::
⟨(some 21), none, (.op (.len (.t 20)))⟩ ::
⟨(some 22), none, (.op (.mv (.c (Value.int .i64 0))))⟩ :: [])) (.block 0 (.loop (.seq (.reg (
    ⟨(some 23), none, (.op (.int .lss (.t 22) (.t 21)))⟩ :: [])) (.seq (.cond (.t 23) .skip (.exit 0)) (.seq (.block 1 (.seq (.reg (
    ⟨(some 24), none, (.op (.ixsl 1 (.t 20) (.t 22)))⟩ ::
⟨(some 25), none, (.op (.load1 (.t 24)))⟩ ::
⟨(some 9), none, (.op (.mv (.t 25)))⟩ :: [])) (.seq (.reg (
    ⟨(some 26), none, (.op (.mv (.t 9)))⟩ ::
⟨(some 27), none, (.op (.int .lss (.t 26) (.c (Value.int .i64 0))))⟩ ::
⟨(some 28), none, (.op (.mv (.t 27)))⟩ ::
⟨(some 29), (some (28, false)), (.op (.mv (.t 9)))⟩ ::
⟨(some 30), (some (28, false)), (.op (.faddr 1 (.t 2)))⟩ ::
⟨(some 31), (some (28, false)), (.op (.load1 (.t 30)))⟩ ::
⟨(some 32), (some (28, false)), (.op (.int .geq (.t 29) (.t 31)))⟩ ::
⟨(some 33), none, (.op (.pick (.t 28) (.c (Value.bool true)) (.t 32)))⟩ :: [])) (.cond (.t 33) (.seq (.reg (
    ⟨(some 4), none, (.op (.mv (.c (Value.pointer none))))⟩ ::
⟨(some 5), none, (.op (.mv (.c (Value.pointer none))))⟩ ::
⟨(some 6), none, (.op (.mv (.c (Value.int .i64 3))))⟩ :: [])) .ret) .skip)))) (.reg (
    ⟨(some 34), none, (.op (.int .add (.t 22) (.c (Value.int .i64 1))))⟩ ::
⟨(some 22), none, (.op (.mv (.t 34)))⟩ :: [])))))))) (.seq (.reg (
    ⟨(some 35), none, (.op (.loadn 5 (.t 2)))⟩ ::
⟨(some 36), none, (.call (.c (Value.func (.func 37) #[] #[])) [(.t 35)])⟩ ::
⟨(some 10), none, (.op (.mv (.t 36)))⟩ :: [])) (.seq (.reg (
    ⟨(some 38), none, (.op (.mv (.t 10)))⟩ ::
⟨(some 39), none, (.call (.c (Value.func (.func 30) #[] #[])) [(.t 38)])⟩ ::
⟨(some 37), none, (.op (.mv (.t 39)))⟩ ::
⟨(some 40), none, (.op (.extract (.t 37) 0))⟩ ::
⟨(some 41), none, (.op (.extract (.t 37) 1))⟩ ::
⟨(some 11), none, (.op (.mv (.t 40)))⟩ ::
⟨(some 12), none, (.op (.mv (.t 41)))⟩ :: [])) (.seq (.seq (.reg (
    ⟨(some 42), none, (.op (.mv (.t 12)))⟩ ::
⟨(some 43), none, (.op (.not (.t 42)))⟩ :: [])) (.cond (.t 43) (.seq (.reg (
    ⟨(some 4), none, (.op (.mv (.c (Value.pointer none))))⟩ ::
⟨(some 5), none, (.op (.mv (.c (Value.pointer none))))⟩ ::
⟨(some 6), none, (.op (.mv (.c (Value.int .i64 20))))⟩ :: [])) .ret) .skip)) (.seq (.seq (.reg (
    ⟨(some 44), none, (.op (.mv (.t 1)))⟩ ::
⟨(some 45), none, (.op (.len (.t 44)))⟩ ::
⟨(some 46), none, (.op (.mv (.c (Value.int .i64 0))))⟩ :: [])) (.block 2 (.loop (.seq (.reg (
    ⟨(some 47), none, (.op (.int .lss (.t 46) (.t 45)))⟩ :: [])) (.seq (.cond (.t 47) .skip (.exit 2)) (.seq (.block 3 (.seq (.reg (
    ⟨(some 48), none, (.op (.ixsl 1 (.t 44) (.t 46)))⟩ ::
⟨(some 49), none, (.op (.load1 (.t 48)))⟩ ::
⟨(some 14), none, (.op (.alloc [Value.int .i64 0] 3))⟩ ::
⟨none, none, (.op (.store 1 (.t 14) (.t 49)))⟩ :: [])) (.seq (.reg (
    ⟨(some 50), none, (.op (.faddr 4 (.t 2)))⟩ ::
⟨(some 51), none, (.op (.load1 (.t 50)))⟩ ::
⟨(some 52), none, (.op (.mkfn (Fn.func 46) [] [(.t 14)]))⟩ ::
⟨(some 53), none, (.call (.c (Value.func (.func 45) #[] #[])) [(.t 51), (.t 52)])⟩ ::
⟨(some 54), none, (.op (.not (.t 53)))⟩ :: [])) (.cond (.t 54) (.seq (.reg (
    ⟨(some 4), none, (.op (.mv (.c (Value.pointer none))))⟩ ::
⟨(some 5), none, (.op (.mv (.c (Value.pointer none))))⟩ ::
⟨(some 6), none, (.op (.mv (.c (Value.int .i64 5))))⟩ :: [])) .ret) .skip)))) (.reg (
    ⟨(some 55), none, (.op (.int .add (.t 46) (.c (Value.int .i64 1))))⟩ ::
⟨(some 46), none, (.op (.mv (.t 55)))⟩ :: [])))))))) (.seq (.reg (
    ⟨(some 56), none, (.op (.mv (.t 10)))⟩ ::
⟨(some 57), none, (.op (.mv (.t 11)))⟩ ::
⟨(some 4), none, (.op (.mv (.t 56)))⟩ ::
⟨(some 5), none, (.op (.mv (.t 57)))⟩ ::
⟨(some 6), none, (.op (.mv (.c (Value.int .i64 0))))⟩ :: [])) .ret))))))))
def r28 : List ResultVar := [.tmp 4, .tmp 5, .tmp 6]
set_option maxRecDepth 1000000 in
set_option maxHeartbeats 4000000 in
theorem fun28 : Fun Try.prog 28 58 2 a28 r28 :=
  ⟨rfl, Try.f28, _, rfl, rfl, rfl, by decide, rfl, rfl, rfl⟩
/-- (*tumblehome/agree.net).turned -/
noncomputable def a29 : ACode := (.seq (.reg (
    ⟨(some 2), none, (.op (.mv (.c (Value.pointer none))))⟩ :: [])) (.seq (.dreg (
    ⟨(some 6), none, (.op (.mv (.t 0)))⟩ ::
⟨(some 7), none, (.op (.nilck (.t 6)))⟩ ::
⟨(some 8), none, (.op (.faddr 0 (.t 7)))⟩ ::
⟨(some 9), none, (.op (.loadn 5 (.t 8)))⟩ ::
⟨(some 10), none, (.op (.mv (.t 0)))⟩ ::
⟨(some 11), none, (.op (.nilck (.t 10)))⟩ ::
⟨(some 12), none, (.op (.faddr 5 (.t 11)))⟩ ::
⟨(some 13), none, (.op (.load1 (.t 12)))⟩ ::
⟨(some 14), none, (.op (.build [Value.int .i64 0, Value.int .i64 0, Value.int .i64 0, Value.int .i64 0, Value.slice none 0 0, Value.int .i64 0, Value.bool false, Value.int .i64 0, Value.bool false, Value.int .i64 0, Value.bool false, Value.int .i64 0, Value.bool false, Value.int .i64 0, Value.bool false, Value.int .i64 0, Value.bool false, Value.int .i64 0, Value.bool false, Value.int .i64 0, Value.bool false, Value.int .i64 0, Value.bool false, Value.int .i64 0, Value.bool false, Value.int .i64 0, Value.bool false, Value.int .i64 0, Value.bool false, Value.int .i64 0, Value.bool false, Value.int .i64 0, Value.bool false, Value.int .i64 0, Value.bool false, Value.int .i64 0, Value.bool false, Value.int .i64 0, Value.bool false, Value.int .i64 0, Value.bool false, Value.int .i64 0, Value.bool false, Value.int .i64 0, Value.bool false, Value.int .i64 0, Value.bool false, Value.int .i64 0, Value.bool false, Value.int .i64 0, Value.bool false, Value.int .i64 0, Value.bool false, Value.int .i64 0, Value.bool false, Value.int .i64 0, Value.bool false, Value.int .i64 0, Value.bool false, Value.int .i64 0, Value.bool false, Value.int .i64 0, Value.bool false, Value.int .i64 0, Value.bool false, Value.int .i64 0, Value.bool false, Value.int .i64 0, Value.bool false, Value.int .i64 0, Value.bool false, Value.int .i64 0, Value.bool false, Value.int .i64 0, Value.bool false, Value.int .i64 0, Value.bool false, Value.int .i64 0, Value.bool false, Value.int .i64 0, Value.bool false, Value.int .i64 0, Value.bool false, Value.int .i64 0, Value.bool false, Value.int .i64 0, Value.bool false, Value.int .i64 0, Value.bool false, Value.int .i64 0, Value.bool false, Value.int .i64 0, Value.bool false, Value.int .i64 0, Value.bool false, Value.int .i64 0, Value.bool false, Value.int .i64 0, Value.bool false, Value.int .i64 0, Value.bool false, Value.int .i64 0, Value.bool false, Value.int .i64 0, Value.bool false, Value.int .i64 0, Value.bool false, Value.int .i64 0, Value.bool false, Value.int .i64 0, Value.bool false, Value.int .i64 0, Value.bool false, Value.int .i64 0, Value.bool false, Value.int .i64 0, Value.bool false, Value.int .i64 0, Value.bool false, Value.int .i64 0, Value.bool false, Value.int .i64 0, Value.bool false, Value.int .i64 0, Value.bool false, Value.int .i64 0, Value.bool false, Value.int .i64 0, Value.bool false, Value.int .i64 0, Value.bool false, Value.int .i64 0, Value.bool false, Value.int .i64 0, Value.bool false, Value.int .i64 0, Value.bool false, Value.int .i64 0, Value.bool false, Value.int .i64 0, Value.bool false, Value.int .i64 0, Value.bool false, Value.int .i64 0, Value.bool false, Value.int .i64 0, Value.bool false, Value.int .i64 0, Value.bool false, Value.int .i64 0, Value.bool false, Value.int .i64 0, Value.bool false, Value.int .i64 0, Value.bool false, Value.int .i64 0, Value.bool false, Value.int .i64 0, Value.bool false, Value.int .i64 0, Value.bool false, Value.int .i64 0, Value.bool false, Value.int .i64 0, Value.bool false, Value.int .i64 0, Value.bool false, Value.int .i64 0, Value.bool false, Value.int .i64 0, Value.bool false, Value.int .i64 0, Value.bool false, Value.int .i64 0, Value.bool false, Value.int .i64 0, Value.bool false, Value.int .i64 0, Value.bool false, Value.int .i64 0, Value.bool false, Value.int .i64 0, Value.bool false, Value.int .i64 0, Value.bool false, Value.int .i64 0, Value.bool false, Value.int .i64 0, Value.bool false, Value.int .i64 0, Value.bool false, Value.int .i64 0, Value.bool false, Value.int .i64 0, Value.bool false, Value.int .i64 0, Value.bool false, Value.int .i64 0, Value.bool false, Value.int .i64 0, Value.bool false, Value.int .i64 0, Value.bool false, Value.int .i64 0, Value.bool false, Value.int .i64 0, Value.bool false, Value.int .i64 0, Value.bool false, Value.int .i64 0, Value.bool false, Value.int .i64 0, Value.bool false, Value.int .i64 0, Value.bool false, Value.int .i64 0, Value.bool false, Value.int .i64 0, Value.bool false, Value.int .i64 0, Value.bool false, Value.int .i64 0, Value.bool false, Value.int .i64 0, Value.bool false, Value.int .i64 0, Value.bool false, Value.int .i64 0, Value.bool false, Value.int .i64 0, Value.bool false, Value.int .i64 0, Value.bool false, Value.int .i64 0, Value.bool false, Value.int .i64 0, Value.bool false, Value.int .i64 0, Value.bool false, Value.int .i64 0, Value.bool false, Value.int .i64 0, Value.bool false, Value.int .i64 0, Value.bool false, Value.int .i64 0, Value.bool false, Value.int .i64 0, Value.bool false, Value.int .i64 0, Value.bool false, Value.int .i64 0, Value.bool false, Value.int .i64 0, Value.bool false, Value.int .i64 0, Value.bool false, Value.int .i64 0, Value.bool false, Value.int .i64 0, Value.bool false, Value.int .i64 0, Value.bool false, Value.int .i64 0, Value.bool false, Value.int .i64 0, Value.bool false, Value.int .i64 0, Value.bool false, Value.int .i64 0, Value.bool false, Value.int .i64 0, Value.bool false, Value.int .i64 0, Value.bool false, Value.int .i64 0, Value.bool false, Value.int .i64 0, Value.bool false, Value.int .i64 0, Value.bool false, Value.int .i64 0, Value.bool false, Value.int .i64 0, Value.bool false, Value.int .i64 0, Value.bool false, Value.int .i64 0, Value.bool false, Value.int .i64 0, Value.bool false, Value.int .i64 0, Value.bool false, Value.int .i64 0, Value.bool false, Value.int .i64 0, Value.bool false, Value.int .i64 0, Value.bool false, Value.int .i64 0, Value.bool false, Value.int .i64 0, Value.bool false, Value.int .i64 0, Value.bool false, Value.int .i64 0, Value.bool false, Value.int .i64 0, Value.bool false, Value.int .i64 0, Value.bool false, Value.int .i64 0, Value.bool false, Value.int .i64 0, Value.bool false, Value.int .i64 0, Value.bool false, Value.int .i64 0, Value.bool false, Value.int .i64 0, Value.bool false, Value.int .i64 0, Value.bool false, Value.int .i64 0, Value.bool false, Value.int .i64 0, Value.bool false, Value.int .i64 0, Value.bool false, Value.int .i64 0, Value.bool false, Value.int .i64 0, Value.bool false, Value.int .i64 0, Value.bool false, Value.int .i64 0, Value.bool false, Value.int .i64 0, Value.bool false, Value.int .i64 0, Value.bool false, Value.int .i64 0, Value.bool false, Value.int .i64 0] [(0, 5, (.t 9)), (5, 1, (.t 13))]))⟩ ::
⟨(some 15), none, (.op (.box (.t 14) 83))⟩ ::
⟨(some 3), none, (.op (.mv (.t 15)))⟩ :: []) []) (.seq (.seq (.reg (
    ⟨(some 16), none, (.op (.mv (.t 0)))⟩ ::
⟨(some 17), none, (.op (.nilck (.t 16)))⟩ ::
⟨(some 18), none, (.op (.faddr 5 (.t 17)))⟩ ::
⟨(some 19), none, (.op (.load1 (.t 18)))⟩ ::
⟨(some 20), none, (.op (.mv (.c (Value.int .i64 0))))⟩ :: [])) (.block 0 (.loop (.seq (.reg (
    ⟨(some 21), none, (.op (.int .lss (.t 20) (.t 19)))⟩ :: [])) (.seq (.cond (.t 21) .skip (.exit 0)) (.seq (.block 1 (.seq (.reg (
    ⟨(some 22), none, (.op (.mv (.t 20)))⟩ ::
⟨(some 4), none, (.op (.mv (.t 22)))⟩ :: [])) (.seq (.reg (
    ⟨(some 23), none, (.op (.mv (.t 0)))⟩ ::
⟨(some 24), none, (.op (.nilck (.t 23)))⟩ ::
⟨(some 25), none, (.op (.faddr 5 (.t 24)))⟩ ::
⟨(some 26), none, (.op (.load1 (.t 25)))⟩ ::
⟨(some 27), none, (.op (.mv (.c (Value.int .i64 0))))⟩ :: [])) (.block 2 (.loop (.seq (.reg (
    ⟨(some 28), none, (.op (.int .lss (.t 27) (.t 26)))⟩ :: [])) (.seq (.cond (.t 28) .skip (.exit 2)) (.seq (.block 3 (.seq (.reg (
    ⟨(some 29), none, (.op (.mv (.t 27)))⟩ ::
⟨(some 5), none, (.op (.mv (.t 29)))⟩ :: [])) (.dreg (
    ⟨(some 30), none, (.op (.mv (.t 3)))⟩ ::
⟨(some 31), none, (.op (.mv (.t 5)))⟩ ::
⟨(some 32), none, (.op (.mv (.t 4)))⟩ ::
⟨(some 33), none, (.op (.mv (.t 0)))⟩ ::
⟨(some 34), none, (.op (.mv (.t 4)))⟩ ::
⟨(some 35), none, (.op (.mv (.t 5)))⟩ ::
⟨(some 36), none, (.op (.nilck (.t 33)))⟩ ::
⟨(some 37), none, (.op (.faddr 6 (.t 36)))⟩ ::
⟨(some 38), none, (.op (.ixarr 13 26 (.t 37) (.t 34)))⟩ ::
⟨(some 39), none, (.op (.ixarr 13 2 (.t 38) (.t 35)))⟩ ::
⟨(some 40), none, (.op (.loadn 2 (.t 39)))⟩ ::
⟨(some 41), none, (.op (.nilck (.t 30)))⟩ ::
⟨(some 42), none, (.op (.faddr 6 (.t 41)))⟩ ::
⟨(some 43), none, (.op (.ixarr 13 26 (.t 42) (.t 31)))⟩ ::
⟨(some 44), none, (.op (.ixarr 13 2 (.t 43) (.t 32)))⟩ ::
⟨none, none, (.op (.store 2 (.t 44) (.t 40)))⟩ :: []) []))) (.reg (
    ⟨(some 45), none, (.op (.int .add (.t 27) (.c (Value.int .i64 1))))⟩ ::
⟨(some 27), none, (.op (.mv (.t 45)))⟩ :: [])))))))))) (.reg (
    ⟨(some 46), none, (.op (.int .add (.t 20) (.c (Value.int .i64 1))))⟩ ::
⟨(some 20), none, (.op (.mv (.t 46)))⟩ :: [])))))))) (.seq (.reg (
    ⟨(some 47), none, (.op (.mv (.t 3)))⟩ ::
⟨(some 2), none, (.op (.mv (.t 47)))⟩ :: [])) .ret))))
def r29 : List ResultVar := [.tmp 2]
set_option maxRecDepth 1000000 in
set_option maxHeartbeats 4000000 in
theorem fun29 : Fun Try.prog 29 48 1 a29 r29 :=
  ⟨rfl, Try.f29, _, rfl, rfl, rfl, by decide, rfl, rfl, rfl⟩
/-- (*tumblehome/agree.net).heights -/
noncomputable def a30 : ACode := (.seq (.reg (
    ⟨(some 2), none, (.op (.mv (.c (Value.pointer none))))⟩ ::
⟨(some 3), none, (.op (.mv (.c (Value.bool false))))⟩ :: [])) (.seq (.reg (
    ⟨(some 4), none, (.op (.mv (.t 0)))⟩ ::
⟨(some 5), none, (.call (.c (Value.func (.func 47) #[] #[])) [(.t 4), (.c (Value.int .i64 0))])⟩ ::
⟨(some 6), none, (.op (.extract (.t 5) 0))⟩ ::
⟨(some 7), none, (.op (.extract (.t 5) 1))⟩ ::
⟨(some 2), none, (.op (.mv (.t 6)))⟩ ::
⟨(some 3), none, (.op (.mv (.t 7)))⟩ :: [])) .ret))
def r30 : List ResultVar := [.tmp 2, .tmp 3]
set_option maxRecDepth 1000000 in
set_option maxHeartbeats 4000000 in
theorem fun30 : Fun Try.prog 30 8 1 a30 r30 :=
  ⟨rfl, Try.f30, _, rfl, rfl, rfl, by decide, rfl, rfl, rfl⟩
/-- (*tumblehome/agree.heights).truth -/
noncomputable def a31 : ACode := (.seq (.reg (
    ⟨(some 4), none, (.op (.alloc [Value.slice none 0 0, Value.slice none 0 0] 29))⟩ :: [])) (.seq (.reg (
    ⟨(some 10), none, (.op (.mv (.t 0)))⟩ ::
⟨(some 11), none, (.op (.nilck (.t 10)))⟩ ::
⟨(some 12), none, (.op (.faddr 0 (.t 11)))⟩ ::
⟨(some 13), none, (.op (.load1 (.t 12)))⟩ ::
⟨(some 14), none, (.op (.nilck (.t 13)))⟩ ::
⟨(some 15), none, (.op (.faddr 5 (.t 14)))⟩ ::
⟨(some 16), none, (.op (.load1 (.t 15)))⟩ ::
⟨(some 17), none, (.op (.mkslice [Value.int .i64 0] 8 2 (.t 16) (.t 16)))⟩ ::
⟨(some 5), none, (.op (.mv (.t 17)))⟩ :: [])) (.seq (.seq (.reg (
    ⟨(some 18), none, (.op (.mv (.t 5)))⟩ ::
⟨(some 19), none, (.op (.len (.t 18)))⟩ ::
⟨(some 20), none, (.op (.mv (.c (Value.int .i64 0))))⟩ :: [])) (.block 0 (.loop (.seq (.reg (
    ⟨(some 21), none, (.op (.int .lss (.t 20) (.t 19)))⟩ :: [])) (.seq (.cond (.t 21) .skip (.exit 0)) (.seq (.block 1 (.seq (.reg (
    ⟨(some 22), none, (.op (.mv (.t 20)))⟩ ::
⟨(some 6), none, (.op (.mv (.t 22)))⟩ :: [])) (.reg (
    ⟨(some 23), none, (.op (.mv (.t 5)))⟩ ::
⟨(some 24), none, (.op (.mv (.t 6)))⟩ ::
⟨(some 25), none, (.op (.mv (.t 1)))⟩ ::
⟨(some 26), none, (.op (.mv (.t 0)))⟩ ::
⟨(some 27), none, (.op (.mv (.t 6)))⟩ ::
⟨(some 28), none, (.call (.c (Value.func (.func 48) #[] #[])) [(.t 26), (.t 27)])⟩ ::
⟨(some 29), none, (.op (.int .mul (.t 25) (.t 28)))⟩ ::
⟨(some 30), none, (.op (.ixsl 1 (.t 23) (.t 24)))⟩ ::
⟨none, none, (.op (.store 1 (.t 30) (.t 29)))⟩ :: [])))) (.reg (
    ⟨(some 31), none, (.op (.int .add (.t 20) (.c (Value.int .i64 1))))⟩ ::
⟨(some 20), none, (.op (.mv (.t 31)))⟩ :: [])))))))) (.seq (.reg (
    ⟨(some 32), none, (.op (.mv (.t 0)))⟩ ::
⟨(some 33), none, (.op (.nilck (.t 32)))⟩ ::
⟨(some 34), none, (.op (.faddr 0 (.t 33)))⟩ ::
⟨(some 35), none, (.op (.load1 (.t 34)))⟩ ::
⟨(some 36), none, (.op (.nilck (.t 35)))⟩ ::
⟨(some 37), none, (.op (.faddr 0 (.t 36)))⟩ ::
⟨(some 38), none, (.op (.faddr 0 (.t 37)))⟩ ::
⟨(some 39), none, (.op (.load1 (.t 38)))⟩ ::
⟨(some 40), none, (.op (.mkslice [Value.int .i64 0] 8 2 (.t 39) (.t 39)))⟩ ::
⟨(some 41), none, (.op (.build [Value.slice none 0 0, Value.slice none 0 0] [(0, 1, (.t 40))]))⟩ ::
⟨(some 7), none, (.op (.alloc [Value.slice none 0 0, Value.slice none 0 0] 29))⟩ ::
⟨none, none, (.op (.store 2 (.t 7) (.t 41)))⟩ :: [])) (.seq (.dreg (
    ⟨(some 42), none, (.op (.faddr 0 (.t 7)))⟩ ::
⟨(some 43), none, (.op (.load1 (.t 42)))⟩ ::
⟨(some 44), none, (.op (.mv (.t 5)))⟩ ::
⟨(some 45), none, (.op (.slsl 1 (.t 44) (some (.c (Value.int .i64 1))) none none))⟩ ::
⟨(some 46), none, (.op (.copy 1 (.t 43) (.t 45)))⟩ :: []) []) (.seq (.seq (.reg (
    ⟨(some 47), none, (.op (.mv (.t 5)))⟩ ::
⟨(some 48), none, (.op (.mv (.t 0)))⟩ ::
⟨(some 49), none, (.op (.nilck (.t 48)))⟩ ::
⟨(some 50), none, (.op (.faddr 0 (.t 49)))⟩ ::
⟨(some 51), none, (.op (.load1 (.t 50)))⟩ ::
⟨(some 52), none, (.op (.nilck (.t 51)))⟩ ::
⟨(some 53), none, (.op (.faddr 0 (.t 52)))⟩ ::
⟨(some 54), none, (.op (.faddr 0 (.t 53)))⟩ ::
⟨(some 55), none, (.op (.load1 (.t 54)))⟩ ::
⟨(some 56), none, (.op (.int .add (.c (Value.int .i64 1)) (.t 55)))⟩ ::
⟨(some 57), none, (.op (.slsl 1 (.t 47) (some (.t 56)) none none))⟩ ::
⟨(some 58), none, (.op (.len (.t 57)))⟩ ::
⟨(some 59), none, (.op (.mv (.c (Value.int .i64 0))))⟩ :: [])) (.block 2 (.loop (.seq (.reg (
    ⟨(some 60), none, (.op (.int .lss (.t 59) (.t 58)))⟩ :: [])) (.seq (.cond (.t 60) .skip (.exit 2)) (.seq (.block 3 (.seq (.reg (
    ⟨(some 61), none, (.op (.ixsl 1 (.t 57) (.t 59)))⟩ ::
⟨(some 62), none, (.op (.load1 (.t 61)))⟩ ::
⟨(some 9), none, (.op (.mv (.t 62)))⟩ :: [])) (.reg (
    ⟨(some 63), none, (.op (.faddr 1 (.t 7)))⟩ ::
⟨(some 64), none, (.op (.load1 (.t 63)))⟩ ::
⟨(some 65), none, (.op (.mv (.t 9)))⟩ ::
⟨(some 66), none, (.op (.neg (.t 65)))⟩ ::
⟨(some 67), none, (.op (.bslice [Value.int .i64 0] [(0, 1, (.t 66))] 1 2))⟩ ::
⟨(some 68), none, (.op (.append 2 1 8 (.t 64) (.t 67)))⟩ ::
⟨(some 69), none, (.op (.faddr 1 (.t 7)))⟩ ::
⟨none, none, (.op (.store 1 (.t 69) (.t 68)))⟩ :: [])))) (.reg (
    ⟨(some 70), none, (.op (.int .add (.t 59) (.c (Value.int .i64 1))))⟩ ::
⟨(some 59), none, (.op (.mv (.t 70)))⟩ :: [])))))))) (.seq (.reg (
    ⟨(some 71), none, (.op (.loadn 2 (.t 7)))⟩ ::
⟨none, none, (.op (.store 2 (.t 4) (.t 71)))⟩ :: [])) .ret)))))))
def r31 : List ResultVar := [.cell 4 29]
set_option maxRecDepth 1000000 in
set_option maxHeartbeats 4000000 in
theorem fun31 : Fun Try.prog 31 72 2 a31 r31 :=
  ⟨rfl, Try.f31, _, rfl, rfl, rfl, by decide, rfl, rfl, rfl⟩
/-- (*tumblehome/agree.net).far -/
noncomputable def a32 : ACode := (.seq (.reg (
    ⟨(some 6), none, (.op (.mv (.c (Value.int .i64 0))))⟩ :: [])) (.seq (.reg (
    ⟨(some 11), none, (.op (.mv (.t 0)))⟩ ::
⟨(some 12), none, (.op (.mv (.t 1)))⟩ ::
⟨(some 13), none, (.call (.c (Value.func (.func 47) #[] #[])) [(.t 11), (.t 12)])⟩ ::
⟨(some 10), none, (.op (.mv (.t 13)))⟩ ::
⟨(some 14), none, (.op (.extract (.t 10) 0))⟩ ::
⟨(some 15), none, (.op (.extract (.t 10) 1))⟩ ::
⟨(some 7), none, (.op (.mv (.t 14)))⟩ ::
⟨(some 8), none, (.op (.mv (.t 15)))⟩ :: [])) (.seq (.reg (
    ⟨(some 16), none, (.op (.mv (.t 7)))⟩ ::
⟨(some 17), none, (.op (.mkfn (Fn.func 48) [(.t 16)] []))⟩ ::
⟨(some 9), none, (.op (.mv (.t 17)))⟩ :: [])) (.seq (.reg (
    ⟨(some 18), none, (.op (.mv (.t 9)))⟩ ::
⟨(some 19), none, (.op (.mv (.t 2)))⟩ ::
⟨(some 20), none, (.call (.t 18) [(.t 19)])⟩ ::
⟨(some 6), none, (.op (.mv (.t 20)))⟩ :: [])) .ret))))
def r32 : List ResultVar := [.tmp 6]
set_option maxRecDepth 1000000 in
set_option maxHeartbeats 4000000 in
theorem fun32 : Fun Try.prog 32 21 3 a32 r32 :=
  ⟨rfl, Try.f32, _, rfl, rfl, rfl, by decide, rfl, rfl, rfl⟩
/-- tumblehome/tumblehomeref09.within -/
noncomputable def a33 : ACode := (.seq (.reg (
    ⟨(some 2), none, (.op (.mv (.c (Value.bool false))))⟩ :: [])) (.seq (.seq (.reg (
    ⟨(some 3), none, (.op (.mv (.c (Value.int .i64 0))))⟩ :: [])) (.block 0 (.loop (.seq (.seq (.reg (
    ⟨(some 4), none, (.op (.mv (.t 3)))⟩ ::
⟨(some 5), none, (.op (.mv (.t 0)))⟩ ::
⟨(some 6), none, (.op (.len (.t 5)))⟩ ::
⟨(some 7), none, (.op (.int .lss (.t 4) (.t 6)))⟩ :: [])) (.cond (.t 7) .skip (.exit 0))) (.seq (.block 1 (.seq (.reg (
    ⟨(some 10), none, (.op (.mv (.t 0)))⟩ ::
⟨(some 11), none, (.op (.mv (.t 3)))⟩ ::
⟨(some 12), none, (.op (.ixsl 1 (.t 10) (.t 11)))⟩ ::
⟨(some 13), none, (.op (.load1 (.t 12)))⟩ ::
⟨(some 14), none, (.op (.int .lss (.t 13) (.c (Value.int .i64 (-1099511627776)))))⟩ ::
⟨(some 15), none, (.op (.mv (.t 14)))⟩ ::
⟨(some 16), (some (15, false)), (.op (.mv (.t 0)))⟩ ::
⟨(some 17), (some (15, false)), (.op (.mv (.t 3)))⟩ ::
⟨(some 18), (some (15, false)), (.op (.ixsl 1 (.t 16) (.t 17)))⟩ ::
⟨(some 19), (some (15, false)), (.op (.load1 (.t 18)))⟩ ::
⟨(some 20), (some (15, false)), (.op (.int .gtr (.t 19) (.c (Value.int .i64 1099511627776))))⟩ ::
⟨(some 21), none, (.op (.pick (.t 15) (.c (Value.bool true)) (.t 20)))⟩ :: [])) (.cond (.t 21) (.seq (.reg (
    ⟨(some 2), none, (.op (.mv (.c (Value.bool false))))⟩ :: [])) .ret) .skip))) (.reg (
    ⟨(some 8), none, (.op (.mv (.t 3)))⟩ ::
⟨(some 9), none, (.op (.int .add (.t 8) (.c (Value.int .i64 1))))⟩ ::
⟨(some 3), none, (.op (.mv (.t 9)))⟩ :: []))))))) (.seq (.reg (
    ⟨(some 2), none, (.op (.mv (.c (Value.bool true))))⟩ :: [])) .ret)))
def r33 : List ResultVar := [.tmp 2]
set_option maxRecDepth 1000000 in
set_option maxHeartbeats 4000000 in
theorem fun33 : Fun Try.prog 33 22 1 a33 r33 :=
  ⟨rfl, Try.f33, _, rfl, rfl, rfl, by decide, rfl, rfl, rfl⟩
/-- tumblehome/agree.CheckTable -/
noncomputable def a34 : ACode := (.seq (.reg (
    ⟨(some 1), none, (.op (.box (.t 0) 26))⟩ ::
⟨(some 2), none, (.op (.mv (.c (Value.int .i64 0))))⟩ :: [])) (.seq (.reg (
    ⟨(some 3), none, (.op (.alloc [Value.nilFunc] 97))⟩ ::
⟨none, none, (.op (.store 1 (.t 3) (.c (Value.func (.func 49) #[] #[]))))⟩ :: [])) (.seq (.block 0 (.seq (.reg (
    ⟨(some 5), none, (.op (.faddr 4 (.t 1)))⟩ ::
⟨(some 6), none, (.op (.load1 (.t 5)))⟩ ::
⟨(some 7), none, (.op (.len (.t 6)))⟩ ::
⟨(some 8), none, (.op (.int .gtr (.t 7) (.c (Value.int .i64 24))))⟩ ::
⟨(some 4), none, (.op (.mv (.t 8)))⟩ :: [])) (.cond (.t 4) (.seq (.reg (
    ⟨(some 2), none, (.op (.mv (.c (Value.int .i64 6))))⟩ :: [])) .ret) (.seq (.reg (
    ⟨(some 10), none, (.op (.faddr 0 (.t 1)))⟩ ::
⟨(some 11), none, (.op (.load1 (.t 10)))⟩ ::
⟨(some 12), none, (.op (.int .lss (.t 11) (.c (Value.int .i64 1))))⟩ ::
⟨(some 13), none, (.op (.mv (.t 12)))⟩ ::
⟨(some 14), (some (13, false)), (.op (.faddr 0 (.t 1)))⟩ ::
⟨(some 15), (some (13, false)), (.op (.load1 (.t 14)))⟩ ::
⟨(some 16), (some (13, false)), (.op (.int .gtr (.t 15) (.c (Value.int .i64 6))))⟩ ::
⟨(some 17), none, (.op (.pick (.t 13) (.c (Value.bool true)) (.t 16)))⟩ ::
⟨(some 18), none, (.op (.mv (.t 17)))⟩ ::
⟨(some 19), (some (18, false)), (.op (.faddr 1 (.t 1)))⟩ ::
⟨(some 20), (some (18, false)), (.op (.load1 (.t 19)))⟩ ::
⟨(some 21), (some (18, false)), (.op (.int .lss (.t 20) (.c (Value.int .i64 1))))⟩ ::
⟨(some 22), none, (.op (.pick (.t 18) (.c (Value.bool true)) (.t 21)))⟩ ::
⟨(some 23), none, (.op (.mv (.t 22)))⟩ ::
⟨(some 24), (some (23, false)), (.op (.faddr 1 (.t 1)))⟩ ::
⟨(some 25), (some (23, false)), (.op (.load1 (.t 24)))⟩ ::
⟨(some 26), (some (23, false)), (.op (.int .gtr (.t 25) (.c (Value.int .i64 6))))⟩ ::
⟨(some 27), none, (.op (.pick (.t 23) (.c (Value.bool true)) (.t 26)))⟩ ::
⟨(some 28), none, (.op (.mv (.t 27)))⟩ ::
⟨(some 29), (some (28, false)), (.op (.faddr 2 (.t 1)))⟩ ::
⟨(some 30), (some (28, false)), (.op (.loadn 2 (.t 29)))⟩ ::
⟨(some 31), (some (28, false)), (.call (.c (Value.func (.func 50) #[] #[])) [(.t 30)])⟩ ::
⟨(some 32), (some (28, false)), (.op (.not (.t 31)))⟩ ::
⟨(some 33), none, (.op (.pick (.t 28) (.c (Value.bool true)) (.t 32)))⟩ ::
⟨(some 9), none, (.op (.mv (.t 33)))⟩ :: [])) (.cond (.t 9) (.seq (.reg (
    ⟨(some 2), none, (.op (.mv (.c (Value.int .i64 2))))⟩ :: [])) .ret) (.seq (.reg (
    ⟨(some 35), none, (.op (.faddr 4 (.t 1)))⟩ ::
⟨(some 36), none, (.op (.load1 (.t 35)))⟩ ::
⟨(some 37), none, (.op (.mkfn (Fn.func 51) [] [(.t 3), (.t 1)]))⟩ ::
⟨(some 38), none, (.call (.c (Value.func (.func 45) #[] #[])) [(.t 36), (.t 37)])⟩ ::
⟨(some 34), none, (.op (.mv (.t 38)))⟩ :: [])) (.cond (.t 34) (.seq (.reg (
    ⟨(some 2), none, (.op (.mv (.c (Value.int .i64 3))))⟩ :: [])) .ret) (.seq (.reg (
    ⟨(some 40), none, (.op (.faddr 4 (.t 1)))⟩ ::
⟨(some 41), none, (.op (.load1 (.t 40)))⟩ ::
⟨(some 42), none, (.call (.c (Value.func (.func 45) #[] #[])) [(.t 41), (.c (Value.func (.func 52) #[] #[]))])⟩ ::
⟨(some 39), none, (.op (.mv (.t 42)))⟩ :: [])) (.cond (.t 39) (.seq (.reg (
    ⟨(some 2), none, (.op (.mv (.c (Value.int .i64 2))))⟩ :: [])) .ret) .skip))))))))) (.seq (.reg (
    ⟨(some 2), none, (.op (.mv (.c (Value.int .i64 0))))⟩ :: [])) .ret))))
def r34 : List ResultVar := [.tmp 2]
set_option maxRecDepth 1000000 in
set_option maxHeartbeats 4000000 in
theorem fun34 : Fun Try.prog 34 43 1 a34 r34 :=
  ⟨rfl, Try.f34, _, rfl, rfl, rfl, by decide, rfl, rfl, rfl⟩
/-- tumblehome/agree.within -/
noncomputable def a35 : ACode := (.seq (.reg (
    ⟨(some 2), none, (.op (.box (.t 0) 2))⟩ ::
⟨(some 4), none, (.op (.mv (.c (Value.bool false))))⟩ :: [])) (.seq (.reg (
    ⟨(some 5), none, (.op (.mv (.t 1)))⟩ ::
⟨(some 6), none, (.op (.mkfn (Fn.func 54) [] [(.t 2)]))⟩ ::
⟨(some 7), none, (.call (.c (Value.func (.func 53) #[] #[])) [(.t 5), (.t 6)])⟩ ::
⟨(some 8), none, (.op (.not (.t 7)))⟩ ::
⟨(some 4), none, (.op (.mv (.t 8)))⟩ :: [])) .ret))
def r35 : List ResultVar := [.tmp 4]
set_option maxRecDepth 1000000 in
set_option maxHeartbeats 4000000 in
theorem fun35 : Fun Try.prog 35 9 2 a35 r35 :=
  ⟨rfl, Try.f35, _, rfl, rfl, rfl, by decide, rfl, rfl, rfl⟩
/-- tumblehome/agree.CheckTruth$1 -/
noncomputable def a36 : ACode := (.seq (.reg (
    ⟨(some 2), none, (.op (.box (.t 0) 23))⟩ ::
⟨(some 4), none, (.op (.mv (.c (Value.bool false))))⟩ :: [])) (.seq (.reg (
    ⟨(some 5), none, (.op (.faddr 0 (.t 2)))⟩ ::
⟨(some 6), none, (.op (.load1 (.t 5)))⟩ ::
⟨(some 7), none, (.op (.mv (.t 1)))⟩ ::
⟨(some 8), none, (.op (.int .leq (.t 6) (.t 7)))⟩ ::
⟨(some 9), none, (.op (.mv (.t 8)))⟩ ::
⟨(some 10), (some (9, true)), (.op (.mv (.t 1)))⟩ ::
⟨(some 11), (some (9, true)), (.op (.faddr 1 (.t 2)))⟩ ::
⟨(some 12), (some (9, true)), (.op (.load1 (.t 11)))⟩ ::
⟨(some 13), (some (9, true)), (.op (.int .leq (.t 10) (.t 12)))⟩ ::
⟨(some 14), none, (.op (.pick (.t 9) (.t 13) (.c (Value.bool false))))⟩ ::
⟨(some 4), none, (.op (.mv (.t 14)))⟩ :: [])) .ret))
def r36 : List ResultVar := [.tmp 4]
set_option maxRecDepth 1000000 in
set_option maxHeartbeats 4000000 in
theorem fun36 : Fun Try.prog 36 15 2 a36 r36 :=
  ⟨rfl, Try.f36, _, rfl, rfl, rfl, by decide, rfl, rfl, rfl⟩
/-- tumblehome/agree.newNet -/
noncomputable def a37 : ACode := (.seq (.reg (
    ⟨(some 1), none, (.op (.box (.t 0) 26))⟩ ::
⟨(some 2), none, (.op (.mv (.c (Value.pointer none))))⟩ :: [])) (.seq (.reg (
    ⟨(some 9), none, (.op (.loadn 5 (.t 1)))⟩ ::
⟨(some 10), none, (.op (.faddr 0 (.t 1)))⟩ ::
⟨(some 11), none, (.op (.load1 (.t 10)))⟩ ::
⟨(some 12), none, (.op (.int .add (.c (Value.int .i64 1)) (.t 11)))⟩ ::
⟨(some 13), none, (.op (.faddr 1 (.t 1)))⟩ ::
⟨(some 14), none, (.op (.load1 (.t 13)))⟩ ::
⟨(some 15), none, (.op (.int .add (.t 12) (.t 14)))⟩ ::
⟨(some 16), none, (.op (.build [Value.int .i64 0, Value.int .i64 0, Value.int .i64 0, Value.int .i64 0, Value.slice none 0 0, Value.int .i64 0, Value.bool false, Value.int .i64 0, Value.bool false, Value.int .i64 0, Value.bool false, Value.int .i64 0, Value.bool false, Value.int .i64 0, Value.bool false, Value.int .i64 0, Value.bool false, Value.int .i64 0, Value.bool false, Value.int .i64 0, Value.bool false, Value.int .i64 0, Value.bool false, Value.int .i64 0, Value.bool false, Value.int .i64 0, Value.bool false, Value.int .i64 0, Value.bool false, Value.int .i64 0, Value.bool false, Value.int .i64 0, Value.bool false, Value.int .i64 0, Value.bool false, Value.int .i64 0, Value.bool false, Value.int .i64 0, Value.bool false, Value.int .i64 0, Value.bool false, Value.int .i64 0, Value.bool false, Value.int .i64 0, Value.bool false, Value.int .i64 0, Value.bool false, Value.int .i64 0, Value.bool false, Value.int .i64 0, Value.bool false, Value.int .i64 0, Value.bool false, Value.int .i64 0, Value.bool false, Value.int .i64 0, Value.bool false, Value.int .i64 0, Value.bool false, Value.int .i64 0, Value.bool false, Value.int .i64 0, Value.bool false, Value.int .i64 0, Value.bool false, Value.int .i64 0, Value.bool false, Value.int .i64 0, Value.bool false, Value.int .i64 0, Value.bool false, Value.int .i64 0, Value.bool false, Value.int .i64 0, Value.bool false, Value.int .i64 0, Value.bool false, Value.int .i64 0, Value.bool false, Value.int .i64 0, Value.bool false, Value.int .i64 0, Value.bool false, Value.int .i64 0, Value.bool false, Value.int .i64 0, Value.bool false, Value.int .i64 0, Value.bool false, Value.int .i64 0, Value.bool false, Value.int .i64 0, Value.bool false, Value.int .i64 0, Value.bool false, Value.int .i64 0, Value.bool false, Value.int .i64 0, Value.bool false, Value.int .i64 0, Value.bool false, Value.int .i64 0, Value.bool false, Value.int .i64 0, Value.bool false, Value.int .i64 0, Value.bool false, Value.int .i64 0, Value.bool false, Value.int .i64 0, Value.bool false, Value.int .i64 0, Value.bool false, Value.int .i64 0, Value.bool false, Value.int .i64 0, Value.bool false, Value.int .i64 0, Value.bool false, Value.int .i64 0, Value.bool false, Value.int .i64 0, Value.bool false, Value.int .i64 0, Value.bool false, Value.int .i64 0, Value.bool false, Value.int .i64 0, Value.bool false, Value.int .i64 0, Value.bool false, Value.int .i64 0, Value.bool false, Value.int .i64 0, Value.bool false, Value.int .i64 0, Value.bool false, Value.int .i64 0, Value.bool false, Value.int .i64 0, Value.bool false, Value.int .i64 0, Value.bool false, Value.int .i64 0, Value.bool false, Value.int .i64 0, Value.bool false, Value.int .i64 0, Value.bool false, Value.int .i64 0, Value.bool false, Value.int .i64 0, Value.bool false, Value.int .i64 0, Value.bool false, Value.int .i64 0, Value.bool false, Value.int .i64 0, Value.bool false, Value.int .i64 0, Value.bool false, Value.int .i64 0, Value.bool false, Value.int .i64 0, Value.bool false, Value.int .i64 0, Value.bool false, Value.int .i64 0, Value.bool false, Value.int .i64 0, Value.bool false, Value.int .i64 0, Value.bool false, Value.int .i64 0, Value.bool false, Value.int .i64 0, Value.bool false, Value.int .i64 0, Value.bool false, Value.int .i64 0, Value.bool false, Value.int .i64 0, Value.bool false, Value.int .i64 0, Value.bool false, Value.int .i64 0, Value.bool false, Value.int .i64 0, Value.bool false, Value.int .i64 0, Value.bool false, Value.int .i64 0, Value.bool false, Value.int .i64 0, Value.bool false, Value.int .i64 0, Value.bool false, Value.int .i64 0, Value.bool false, Value.int .i64 0, Value.bool false, Value.int .i64 0, Value.bool false, Value.int .i64 0, Value.bool false, Value.int .i64 0, Value.bool false, Value.int .i64 0, Value.bool false, Value.int .i64 0, Value.bool false, Value.int .i64 0, Value.bool false, Value.int .i64 0, Value.bool false, Value.int .i64 0, Value.bool false, Value.int .i64 0, Value.bool false, Value.int .i64 0, Value.bool false, Value.int .i64 0, Value.bool false, Value.int .i64 0, Value.bool false, Value.int .i64 0, Value.bool false, Value.int .i64 0, Value.bool false, Value.int .i64 0, Value.bool false, Value.int .i64 0, Value.bool false, Value.int .i64 0, Value.bool false, Value.int .i64 0, Value.bool false, Value.int .i64 0, Value.bool false, Value.int .i64 0, Value.bool false, Value.int .i64 0, Value.bool false, Value.int .i64 0, Value.bool false, Value.int .i64 0, Value.bool false, Value.int .i64 0, Value.bool false, Value.int .i64 0, Value.bool false, Value.int .i64 0, Value.bool false, Value.int .i64 0, Value.bool false, Value.int .i64 0, Value.bool false, Value.int .i64 0, Value.bool false, Value.int .i64 0, Value.bool false, Value.int .i64 0, Value.bool false, Value.int .i64 0, Value.bool false, Value.int .i64 0, Value.bool false, Value.int .i64 0, Value.bool false, Value.int .i64 0, Value.bool false, Value.int .i64 0, Value.bool false, Value.int .i64 0, Value.bool false, Value.int .i64 0, Value.bool false, Value.int .i64 0, Value.bool false, Value.int .i64 0, Value.bool false, Value.int .i64 0, Value.bool false, Value.int .i64 0, Value.bool false, Value.int .i64 0, Value.bool false, Value.int .i64 0, Value.bool false, Value.int .i64 0, Value.bool false, Value.int .i64 0, Value.bool false, Value.int .i64 0, Value.bool false, Value.int .i64 0, Value.bool false, Value.int .i64 0, Value.bool false, Value.int .i64 0, Value.bool false, Value.int .i64 0, Value.bool false, Value.int .i64 0, Value.bool false, Value.int .i64 0, Value.bool false, Value.int .i64 0, Value.bool false, Value.int .i64 0, Value.bool false, Value.int .i64 0, Value.bool false, Value.int .i64 0, Value.bool false, Value.int .i64 0, Value.bool false, Value.int .i64 0, Value.bool false, Value.int .i64 0, Value.bool false, Value.int .i64 0, Value.bool false, Value.int .i64 0, Value.bool false, Value.int .i64 0, Value.bool false, Value.int .i64 0, Value.bool false, Value.int .i64 0, Value.bool false, Value.int .i64 0, Value.bool false, Value.int .i64 0, Value.bool false, Value.int .i64 0, Value.bool false, Value.int .i64 0, Value.bool false, Value.int .i64 0, Value.bool false, Value.int .i64 0, Value.bool false, Value.int .i64 0] [(0, 5, (.t 9)), (5, 1, (.t 15))]))⟩ ::
⟨(some 17), none, (.op (.box (.t 16) 83))⟩ ::
⟨(some 3), none, (.op (.mv (.t 17)))⟩ :: [])) (.seq (.seq (.reg (
    ⟨(some 18), none, (.op (.mv (.t 3)))⟩ ::
⟨(some 19), none, (.op (.nilck (.t 18)))⟩ ::
⟨(some 20), none, (.op (.faddr 0 (.t 19)))⟩ ::
⟨(some 21), none, (.op (.faddr 0 (.t 20)))⟩ ::
⟨(some 22), none, (.op (.load1 (.t 21)))⟩ ::
⟨(some 23), none, (.op (.mv (.c (Value.int .i64 0))))⟩ :: [])) (.block 0 (.loop (.seq (.reg (
    ⟨(some 24), none, (.op (.int .lss (.t 23) (.t 22)))⟩ :: [])) (.seq (.cond (.t 24) .skip (.exit 0)) (.seq (.block 1 (.seq (.reg (
    ⟨(some 25), none, (.op (.mv (.t 23)))⟩ ::
⟨(some 4), none, (.op (.mv (.t 25)))⟩ :: [])) (.seq (.reg (
    ⟨(some 26), none, (.op (.mv (.t 3)))⟩ ::
⟨(some 27), none, (.op (.mv (.t 4)))⟩ ::
⟨(some 28), none, (.op (.int .add (.c (Value.int .i64 1)) (.t 27)))⟩ ::
⟨(some 29), none, (.op (.mv (.t 3)))⟩ ::
⟨(some 30), none, (.op (.nilck (.t 29)))⟩ ::
⟨(some 31), none, (.op (.faddr 0 (.t 30)))⟩ ::
⟨(some 32), none, (.op (.faddr 2 (.t 31)))⟩ ::
⟨(some 33), none, (.op (.faddr 1 (.t 32)))⟩ ::
⟨(some 34), none, (.op (.load1 (.t 33)))⟩ ::
⟨(some 35), none, (.call (.c (Value.func (.func 55) #[] #[])) [(.t 26), (.c (Value.int .i64 0)), (.t 28), (.t 34)])⟩ :: [])) (.reg (
    ⟨(some 36), none, (.op (.mv (.t 3)))⟩ ::
⟨(some 37), none, (.op (.mv (.t 4)))⟩ ::
⟨(some 38), none, (.op (.int .add (.c (Value.int .i64 1)) (.t 37)))⟩ ::
⟨(some 39), none, (.op (.mv (.t 3)))⟩ ::
⟨(some 40), none, (.op (.nilck (.t 39)))⟩ ::
⟨(some 41), none, (.op (.faddr 0 (.t 40)))⟩ ::
⟨(some 42), none, (.op (.faddr 2 (.t 41)))⟩ ::
⟨(some 43), none, (.op (.faddr 0 (.t 42)))⟩ ::
⟨(some 44), none, (.op (.load1 (.t 43)))⟩ ::
⟨(some 45), none, (.op (.neg (.t 44)))⟩ ::
⟨(some 46), none, (.call (.c (Value.func (.func 55) #[] #[])) [(.t 36), (.t 38), (.c (Value.int .i64 0)), (.t 45)])⟩ :: []))))) (.reg (
    ⟨(some 47), none, (.op (.int .add (.t 23) (.c (Value.int .i64 1))))⟩ ::
⟨(some 23), none, (.op (.mv (.t 47)))⟩ :: [])))))))) (.seq (.seq (.reg (
    ⟨(some 48), none, (.op (.mv (.t 3)))⟩ ::
⟨(some 49), none, (.op (.nilck (.t 48)))⟩ ::
⟨(some 50), none, (.op (.faddr 0 (.t 49)))⟩ ::
⟨(some 51), none, (.op (.faddr 4 (.t 50)))⟩ ::
⟨(some 52), none, (.op (.load1 (.t 51)))⟩ ::
⟨(some 53), none, (.op (.len (.t 52)))⟩ ::
⟨(some 54), none, (.op (.mv (.c (Value.int .i64 0))))⟩ :: [])) (.block 2 (.loop (.seq (.reg (
    ⟨(some 55), none, (.op (.int .lss (.t 54) (.t 53)))⟩ :: [])) (.seq (.cond (.t 55) .skip (.exit 2)) (.seq (.block 3 (.seq (.reg (
    ⟨(some 56), none, (.op (.ixsl 4 (.t 52) (.t 54)))⟩ ::
⟨(some 57), none, (.op (.loadn 4 (.t 56)))⟩ ::
⟨(some 6), none, (.op (.alloc [Value.int .i64 0, Value.int .i64 0, Value.int .i64 0, Value.int .i64 0] 42))⟩ ::
⟨none, none, (.op (.store 4 (.t 6) (.t 57)))⟩ :: [])) (.seq (.dreg (
    ⟨(some 58), none, (.op (.faddr 0 (.t 6)))⟩ ::
⟨(some 59), none, (.op (.load1 (.t 58)))⟩ ::
⟨(some 60), none, (.op (.int .add (.c (Value.int .i64 1)) (.t 59)))⟩ ::
⟨(some 61), none, (.op (.faddr 0 (.t 1)))⟩ ::
⟨(some 62), none, (.op (.load1 (.t 61)))⟩ ::
⟨(some 63), none, (.op (.int .add (.c (Value.int .i64 1)) (.t 62)))⟩ ::
⟨(some 64), none, (.op (.faddr 1 (.t 6)))⟩ ::
⟨(some 65), none, (.op (.load1 (.t 64)))⟩ ::
⟨(some 66), none, (.op (.int .add (.t 63) (.t 65)))⟩ ::
⟨(some 7), none, (.op (.mv (.t 60)))⟩ ::
⟨(some 8), none, (.op (.mv (.t 66)))⟩ :: []) []) (.seq (.reg (
    ⟨(some 67), none, (.op (.mv (.t 3)))⟩ ::
⟨(some 68), none, (.op (.mv (.t 8)))⟩ ::
⟨(some 69), none, (.op (.mv (.t 7)))⟩ ::
⟨(some 70), none, (.op (.faddr 2 (.t 6)))⟩ ::
⟨(some 71), none, (.op (.faddr 1 (.t 70)))⟩ ::
⟨(some 72), none, (.op (.load1 (.t 71)))⟩ ::
⟨(some 73), none, (.call (.c (Value.func (.func 55) #[] #[])) [(.t 67), (.t 68), (.t 69), (.t 72)])⟩ :: [])) (.reg (
    ⟨(some 74), none, (.op (.mv (.t 3)))⟩ ::
⟨(some 75), none, (.op (.mv (.t 7)))⟩ ::
⟨(some 76), none, (.op (.mv (.t 8)))⟩ ::
⟨(some 77), none, (.op (.faddr 2 (.t 6)))⟩ ::
⟨(some 78), none, (.op (.faddr 0 (.t 77)))⟩ ::
⟨(some 79), none, (.op (.load1 (.t 78)))⟩ ::
⟨(some 80), none, (.op (.neg (.t 79)))⟩ ::
⟨(some 81), none, (.call (.c (Value.func (.func 55) #[] #[])) [(.t 74), (.t 75), (.t 76), (.t 80)])⟩ :: [])))))) (.reg (
    ⟨(some 82), none, (.op (.int .add (.t 54) (.c (Value.int .i64 1))))⟩ ::
⟨(some 54), none, (.op (.mv (.t 82)))⟩ :: [])))))))) (.seq (.reg (
    ⟨(some 83), none, (.op (.mv (.t 3)))⟩ ::
⟨(some 2), none, (.op (.mv (.t 83)))⟩ :: [])) .ret)))))
def r37 : List ResultVar := [.tmp 2]
set_option maxRecDepth 1000000 in
set_option maxHeartbeats 4000000 in
theorem fun37 : Fun Try.prog 37 84 1 a37 r37 :=
  ⟨rfl, Try.f37, _, rfl, rfl, rfl, by decide, rfl, rfl, rfl⟩
/-- tumblehome/agree.Odd$1 -/
noncomputable def a38 : ACode := (.seq (.reg (
    ⟨(some 3), none, (.op (.alloc [Value.int .i64 0, Value.int .i64 0, Value.int .i64 0, Value.int .i64 0, Value.slice none 0 0] 26))⟩ :: [])) (.seq (.reg (
    ⟨(some 7), none, (.op (.loadn 5 (.t 1)))⟩ ::
⟨(some 4), none, (.op (.alloc [Value.int .i64 0, Value.int .i64 0, Value.int .i64 0, Value.int .i64 0, Value.slice none 0 0] 26))⟩ ::
⟨none, none, (.op (.store 5 (.t 4) (.t 7)))⟩ :: [])) (.seq (.reg (
    ⟨(some 8), none, (.op (.faddr 4 (.t 4)))⟩ ::
⟨none, none, (.op (.store 1 (.t 8) (.c (Value.slice none 0 0))))⟩ :: [])) (.seq (.seq (.reg (
    ⟨(some 9), none, (.op (.faddr 4 (.t 1)))⟩ ::
⟨(some 10), none, (.op (.load1 (.t 9)))⟩ ::
⟨(some 11), none, (.op (.len (.t 10)))⟩ ::
⟨(some 12), none, (.op (.mv (.c (Value.int .i64 0))))⟩ :: [])) (.block 0 (.loop (.seq (.reg (
    ⟨(some 13), none, (.op (.int .lss (.t 12) (.t 11)))⟩ :: [])) (.seq (.cond (.t 13) .skip (.exit 0)) (.seq (.block 1 (.seq (.reg (
    ⟨(some 14), none, (.op (.mv (.t 12)))⟩ ::
⟨(some 15), none, (.op (.ixsl 4 (.t 10) (.t 12)))⟩ ::
⟨(some 16), none, (.op (.loadn 4 (.t 15)))⟩ ::
⟨(some 6), none, (.op (.alloc [Value.int .i64 0, Value.int .i64 0, Value.int .i64 0, Value.int .i64 0] 42))⟩ ::
⟨(some 5), none, (.op (.mv (.t 14)))⟩ ::
⟨none, none, (.op (.store 4 (.t 6) (.t 16)))⟩ :: [])) (.seq (.reg (
    ⟨(some 17), none, (.op (.faddr 0 (.t 6)))⟩ ::
⟨(some 18), none, (.op (.load1 (.t 17)))⟩ ::
⟨(some 19), none, (.op (.mv (.t 0)))⟩ ::
⟨(some 20), none, (.op (.int .neq (.t 18) (.t 19)))⟩ :: [])) (.cond (.t 20) (.dreg (
    ⟨(some 21), none, (.op (.faddr 4 (.t 4)))⟩ ::
⟨(some 22), none, (.op (.load1 (.t 21)))⟩ ::
⟨(some 23), none, (.op (.faddr 4 (.t 4)))⟩ ::
⟨(some 24), none, (.op (.load1 (.t 23)))⟩ ::
⟨(some 25), none, (.op (.len (.t 24)))⟩ ::
⟨(some 26), none, (.op (.faddr 4 (.t 4)))⟩ ::
⟨(some 27), none, (.op (.load1 (.t 26)))⟩ ::
⟨(some 28), none, (.op (.len (.t 27)))⟩ ::
⟨(some 29), none, (.op (.slsl 4 (.t 22) none (some (.t 25)) (some (.t 28))))⟩ ::
⟨(some 30), none, (.op (.faddr 4 (.t 1)))⟩ ::
⟨(some 31), none, (.op (.load1 (.t 30)))⟩ ::
⟨(some 32), none, (.op (.mv (.t 5)))⟩ ::
⟨(some 33), none, (.op (.ixsl 4 (.t 31) (.t 32)))⟩ ::
⟨(some 34), none, (.op (.loadn 4 (.t 33)))⟩ ::
⟨(some 35), none, (.op (.bslice [Value.int .i64 0, Value.int .i64 0, Value.int .i64 0, Value.int .i64 0] [(0, 4, (.t 34))] 1 42))⟩ ::
⟨(some 36), none, (.op (.append 42 4 32 (.t 29) (.t 35)))⟩ ::
⟨(some 37), none, (.op (.faddr 4 (.t 4)))⟩ ::
⟨none, none, (.op (.store 1 (.t 37) (.t 36)))⟩ :: []) []) .skip)))) (.reg (
    ⟨(some 38), none, (.op (.int .add (.t 12) (.c (Value.int .i64 1))))⟩ ::
⟨(some 12), none, (.op (.mv (.t 38)))⟩ :: [])))))))) (.seq (.reg (
    ⟨(some 39), none, (.op (.loadn 5 (.t 4)))⟩ ::
⟨none, none, (.op (.store 5 (.t 3) (.t 39)))⟩ :: [])) .ret)))))
def r38 : List ResultVar := [.cell 3 26]
set_option maxRecDepth 1000000 in
set_option maxHeartbeats 4000000 in
theorem fun38 : Fun Try.prog 38 40 2 a38 r38 :=
  ⟨rfl, Try.f38, _, rfl, rfl, rfl, by decide, rfl, rfl, rfl⟩
/-- slices.ContainsFunc[[]int,int] -/
noncomputable def a39 : ACode := (.seq (.reg (
    ⟨(some 4), none, (.op (.mv (.c (Value.bool false))))⟩ :: [])) (.seq (.reg (
    ⟨(some 5), none, (.op (.mv (.t 0)))⟩ ::
⟨(some 6), none, (.op (.mv (.t 1)))⟩ ::
⟨(some 7), none, (.call (.c (Value.func (.func 56) #[] #[])) [(.t 5), (.t 6)])⟩ ::
⟨(some 8), none, (.op (.int .geq (.t 7) (.c (Value.int .i64 0))))⟩ ::
⟨(some 4), none, (.op (.mv (.t 8)))⟩ :: [])) .ret))
def r39 : List ResultVar := [.tmp 4]
set_option maxRecDepth 1000000 in
set_option maxHeartbeats 4000000 in
theorem fun39 : Fun Try.prog 39 9 2 a39 r39 :=
  ⟨rfl, Try.f39, _, rfl, rfl, rfl, by decide, rfl, rfl, rfl⟩
/-- tumblehome/agree.CheckRing$1 -/
noncomputable def a40 : ACode := (.seq (.reg (
    ⟨(some 3), none, (.op (.mv (.c (Value.bool false))))⟩ :: [])) (.seq (.reg (
    ⟨(some 4), none, (.op (.mv (.t 0)))⟩ ::
⟨(some 5), none, (.op (.int .lss (.t 4) (.c (Value.int .i64 0))))⟩ ::
⟨(some 6), none, (.op (.mv (.t 5)))⟩ ::
⟨(some 7), (some (6, false)), (.op (.mv (.t 0)))⟩ ::
⟨(some 8), (some (6, false)), (.op (.load1 (.t 1)))⟩ ::
⟨(some 9), (some (6, false)), (.op (.nilck (.t 8)))⟩ ::
⟨(some 10), (some (6, false)), (.op (.faddr 5 (.t 9)))⟩ ::
⟨(some 11), (some (6, false)), (.op (.load1 (.t 10)))⟩ ::
⟨(some 12), (some (6, false)), (.op (.int .geq (.t 7) (.t 11)))⟩ ::
⟨(some 13), none, (.op (.pick (.t 6) (.c (Value.bool true)) (.t 12)))⟩ ::
⟨(some 3), none, (.op (.mv (.t 13)))⟩ :: [])) .ret))
def r40 : List ResultVar := [.tmp 3]
set_option maxRecDepth 1000000 in
set_option maxHeartbeats 4000000 in
theorem fun40 : Fun Try.prog 40 14 2 a40 r40 :=
  ⟨rfl, Try.f40, _, rfl, rfl, rfl, by decide, rfl, rfl, rfl⟩
/-- tumblehome/agree.sum -/
noncomputable def a41 : ACode := (.seq (.reg (
    ⟨(some 2), none, (.op (.mv (.c (Value.int .i64 0))))⟩ :: [])) (.seq (.reg (
    ⟨(some 3), none, (.op (.mv (.c (Value.int .i64 0))))⟩ :: [])) (.seq (.seq (.reg (
    ⟨(some 6), none, (.op (.mv (.t 0)))⟩ ::
⟨(some 7), none, (.op (.len (.t 6)))⟩ ::
⟨(some 8), none, (.op (.mv (.c (Value.int .i64 0))))⟩ :: [])) (.block 0 (.loop (.seq (.reg (
    ⟨(some 9), none, (.op (.int .lss (.t 8) (.t 7)))⟩ :: [])) (.seq (.cond (.t 9) .skip (.exit 0)) (.seq (.block 1 (.seq (.reg (
    ⟨(some 10), none, (.op (.ixsl 1 (.t 6) (.t 8)))⟩ ::
⟨(some 11), none, (.op (.load1 (.t 10)))⟩ ::
⟨(some 5), none, (.op (.mv (.t 11)))⟩ :: [])) (.reg (
    ⟨(some 12), none, (.op (.mv (.t 3)))⟩ ::
⟨(some 13), none, (.op (.mv (.t 5)))⟩ ::
⟨(some 14), none, (.op (.int .add (.t 12) (.t 13)))⟩ ::
⟨(some 3), none, (.op (.mv (.t 14)))⟩ :: [])))) (.reg (
    ⟨(some 15), none, (.op (.int .add (.t 8) (.c (Value.int .i64 1))))⟩ ::
⟨(some 8), none, (.op (.mv (.t 15)))⟩ :: [])))))))) (.seq (.reg (
    ⟨(some 16), none, (.op (.mv (.t 3)))⟩ ::
⟨(some 2), none, (.op (.mv (.t 16)))⟩ :: [])) .ret))))
def r41 : List ResultVar := [.tmp 2]
set_option maxRecDepth 1000000 in
set_option maxHeartbeats 4000000 in
theorem fun41 : Fun Try.prog 41 17 1 a41 r41 :=
  ⟨rfl, Try.f41, _, rfl, rfl, rfl, by decide, rfl, rfl, rfl⟩
/-- (*tumblehome/agree.heights).ring -/
noncomputable def a42 : ACode := (.seq (.reg (
    ⟨(some 2), none, (.op (.mv (.c (Value.slice none 0 0))))⟩ :: [])) (.seq (.reg (
    ⟨(some 9), none, (.op (.mv (.t 0)))⟩ ::
⟨(some 10), none, (.op (.nilck (.t 9)))⟩ ::
⟨(some 11), none, (.op (.faddr 27 (.t 10)))⟩ ::
⟨(some 12), none, (.op (.load1 (.t 11)))⟩ ::
⟨(some 13), none, (.call (.c (Value.func (.func 57) #[] #[])) [(.t 12)])⟩ ::
⟨(some 3), none, (.op (.mv (.t 13)))⟩ :: [])) (.seq (.reg (
    ⟨(some 14), none, (.op (.mv (.t 0)))⟩ ::
⟨(some 15), none, (.op (.nilck (.t 14)))⟩ ::
⟨(some 16), none, (.op (.faddr 28 (.t 15)))⟩ ::
⟨(some 17), none, (.op (.load1 (.t 16)))⟩ ::
⟨(some 4), none, (.op (.mv (.t 17)))⟩ :: [])) (.seq .skip (.seq (.block 0 (.loop (.block 1 (.seq (.reg (
    ⟨(some 19), none, (.op (.mv (.t 3)))⟩ ::
⟨(some 20), none, (.op (.mv (.t 4)))⟩ ::
⟨(some 21), none, (.op (.lookup 3 (Value.int .i64 0) true (.t 19) (.t 20)))⟩ ::
⟨(some 18), none, (.op (.mv (.t 21)))⟩ ::
⟨(some 22), none, (.op (.extract (.t 18) 0))⟩ ::
⟨(some 23), none, (.op (.extract (.t 18) 1))⟩ ::
⟨(some 5), none, (.op (.mv (.t 22)))⟩ ::
⟨(some 6), none, (.op (.mv (.t 23)))⟩ :: [])) (.seq (.seq (.reg (
    ⟨(some 24), none, (.op (.mv (.t 6)))⟩ ::
⟨(some 25), none, (.op (.not (.t 24)))⟩ :: [])) (.cond (.t 25) (.exit 0) .skip)) (.seq (.reg (
    ⟨(some 26), none, (.op (.mv (.t 3)))⟩ ::
⟨(some 27), none, (.op (.mv (.t 4)))⟩ ::
⟨none, none, (.op (.delete 3 (.t 26) (.t 27)))⟩ :: [])) (.reg (
    ⟨(some 28), none, (.op (.mv (.t 5)))⟩ ::
⟨(some 4), none, (.op (.mv (.t 28)))⟩ :: [])))))))) (.seq (.reg (
    ⟨(some 29), none, (.op (.mv (.t 4)))⟩ ::
⟨(some 30), none, (.op (.bslice [Value.int .i64 0] [(0, 1, (.t 29))] 1 3))⟩ ::
⟨(some 7), none, (.op (.mv (.t 30)))⟩ :: [])) (.seq (.seq (.reg (
    ⟨(some 31), none, (.op (.mv (.t 0)))⟩ ::
⟨(some 32), none, (.op (.nilck (.t 31)))⟩ ::
⟨(some 33), none, (.op (.faddr 27 (.t 32)))⟩ ::
⟨(some 34), none, (.op (.load1 (.t 33)))⟩ ::
⟨(some 35), none, (.op (.mv (.t 4)))⟩ ::
⟨(some 36), none, (.op (.lookup 3 (Value.int .i64 0) false (.t 34) (.t 35)))⟩ ::
⟨(some 8), none, (.op (.mv (.t 36)))⟩ :: [])) (.block 2 (.loop (.seq (.seq (.reg (
    ⟨(some 37), none, (.op (.mv (.t 8)))⟩ ::
⟨(some 38), none, (.op (.mv (.t 4)))⟩ ::
⟨(some 39), none, (.op (.int .neq (.t 37) (.t 38)))⟩ :: [])) (.cond (.t 39) .skip (.exit 2))) (.seq (.block 3 (.reg (
    ⟨(some 46), none, (.op (.mv (.t 7)))⟩ ::
⟨(some 47), none, (.op (.mv (.t 8)))⟩ ::
⟨(some 48), none, (.op (.bslice [Value.int .i64 0] [(0, 1, (.t 47))] 1 3))⟩ ::
⟨(some 49), none, (.op (.append 3 1 8 (.t 46) (.t 48)))⟩ ::
⟨(some 7), none, (.op (.mv (.t 49)))⟩ :: []))) (.reg (
    ⟨(some 40), none, (.op (.mv (.t 0)))⟩ ::
⟨(some 41), none, (.op (.nilck (.t 40)))⟩ ::
⟨(some 42), none, (.op (.faddr 27 (.t 41)))⟩ ::
⟨(some 43), none, (.op (.load1 (.t 42)))⟩ ::
⟨(some 44), none, (.op (.mv (.t 8)))⟩ ::
⟨(some 45), none, (.op (.lookup 3 (Value.int .i64 0) false (.t 43) (.t 44)))⟩ ::
⟨(some 8), none, (.op (.mv (.t 45)))⟩ :: []))))))) (.seq (.reg (
    ⟨(some 50), none, (.op (.mv (.t 7)))⟩ ::
⟨(some 51), none, (.op (.mv (.t 4)))⟩ ::
⟨(some 52), none, (.op (.bslice [Value.int .i64 0] [(0, 1, (.t 51))] 1 3))⟩ ::
⟨(some 53), none, (.op (.append 3 1 8 (.t 50) (.t 52)))⟩ ::
⟨(some 7), none, (.op (.mv (.t 53)))⟩ :: [])) (.seq (.reg (
    ⟨(some 54), none, (.op (.mv (.t 7)))⟩ ::
⟨(some 55), none, (.call (.c (Value.func (.func 58) #[] #[])) [(.t 54)])⟩ :: [])) (.seq (.reg (
    ⟨(some 56), none, (.op (.mv (.t 7)))⟩ ::
⟨(some 2), none, (.op (.mv (.t 56)))⟩ :: [])) .ret))))))))))
def r42 : List ResultVar := [.tmp 2]
set_option maxRecDepth 1000000 in
set_option maxHeartbeats 4000000 in
theorem fun42 : Fun Try.prog 42 57 1 a42 r42 :=
  ⟨rfl, Try.f42, _, rfl, rfl, rfl, by decide, rfl, rfl, rfl⟩
/-- tumblehome/tumblehomeref09.values -/
noncomputable def a43 : ACode := (.seq (.reg (
    ⟨(some 1), none, (.op (.box (.t 0) 23))⟩ ::
⟨(some 2), none, (.op (.mv (.c (Value.bool false))))⟩ :: [])) (.seq (.reg (
    ⟨(some 3), none, (.op (.faddr 0 (.t 1)))⟩ ::
⟨(some 4), none, (.op (.load1 (.t 3)))⟩ ::
⟨(some 5), none, (.op (.int .geq (.t 4) (.c (Value.int .i64 (-1000000)))))⟩ ::
⟨(some 6), none, (.op (.mv (.t 5)))⟩ ::
⟨(some 7), (some (6, true)), (.op (.faddr 0 (.t 1)))⟩ ::
⟨(some 8), (some (6, true)), (.op (.load1 (.t 7)))⟩ ::
⟨(some 9), (some (6, true)), (.op (.faddr 1 (.t 1)))⟩ ::
⟨(some 10), (some (6, true)), (.op (.load1 (.t 9)))⟩ ::
⟨(some 11), (some (6, true)), (.op (.int .leq (.t 8) (.t 10)))⟩ ::
⟨(some 12), none, (.op (.pick (.t 6) (.t 11) (.c (Value.bool false))))⟩ ::
⟨(some 13), none, (.op (.mv (.t 12)))⟩ ::
⟨(some 14), (some (13, true)), (.op (.faddr 1 (.t 1)))⟩ ::
⟨(some 15), (some (13, true)), (.op (.load1 (.t 14)))⟩ ::
⟨(some 16), (some (13, true)), (.op (.int .leq (.t 15) (.c (Value.int .i64 1000000))))⟩ ::
⟨(some 17), none, (.op (.pick (.t 13) (.t 16) (.c (Value.bool false))))⟩ ::
⟨(some 2), none, (.op (.mv (.t 17)))⟩ :: [])) .ret))
def r43 : List ResultVar := [.tmp 2]
set_option maxRecDepth 1000000 in
set_option maxHeartbeats 4000000 in
theorem fun43 : Fun Try.prog 43 18 1 a43 r43 :=
  ⟨rfl, Try.f43, _, rfl, rfl, rfl, by decide, rfl, rfl, rfl⟩
/-- tumblehome/tumblehomeref09.Bounds -/
noncomputable def a44 : ACode := (.seq (.reg (
    ⟨(some 1), none, (.op (.box (.t 0) 26))⟩ ::
⟨(some 2), none, (.op (.mv (.c (Value.slice none 0 0))))⟩ :: [])) (.seq (.reg (
    ⟨(some 13), none, (.op (.faddr 0 (.t 1)))⟩ ::
⟨(some 14), none, (.op (.load1 (.t 13)))⟩ ::
⟨(some 15), none, (.op (.int .add (.c (Value.int .i64 1)) (.t 14)))⟩ ::
⟨(some 16), none, (.op (.faddr 1 (.t 1)))⟩ ::
⟨(some 17), none, (.op (.load1 (.t 16)))⟩ ::
⟨(some 18), none, (.op (.int .add (.t 15) (.t 17)))⟩ ::
⟨(some 3), none, (.op (.mv (.t 18)))⟩ :: [])) (.seq (.reg (
    ⟨(some 4), none, (.op (.mv (.c (Value.slice none 0 0))))⟩ :: [])) (.seq (.seq (.reg (
    ⟨(some 5), none, (.op (.mv (.c (Value.int .i64 0))))⟩ :: [])) (.block 0 (.loop (.seq (.seq (.reg (
    ⟨(some 19), none, (.op (.mv (.t 5)))⟩ ::
⟨(some 20), none, (.op (.mv (.t 3)))⟩ ::
⟨(some 21), none, (.op (.int .lss (.t 19) (.t 20)))⟩ :: [])) (.cond (.t 21) .skip (.exit 0))) (.seq (.block 1 (.seq (.reg (
    ⟨(some 6), none, (.op (.mv (.c (Value.slice none 0 0))))⟩ :: [])) (.seq (.seq (.reg (
    ⟨(some 7), none, (.op (.mv (.c (Value.int .i64 0))))⟩ :: [])) (.block 2 (.loop (.seq (.seq (.reg (
    ⟨(some 24), none, (.op (.mv (.t 7)))⟩ ::
⟨(some 25), none, (.op (.mv (.t 3)))⟩ ::
⟨(some 26), none, (.op (.int .lss (.t 24) (.t 25)))⟩ :: [])) (.cond (.t 26) .skip (.exit 2))) (.seq (.block 3 (.reg (
    ⟨(some 29), none, (.op (.mv (.t 6)))⟩ ::
⟨(some 30), none, (.op (.bslice [Value.int .i64 0] [(0, 1, (.c (Value.int .i64 1125899906842624)))] 1 2))⟩ ::
⟨(some 31), none, (.op (.append 2 1 8 (.t 29) (.t 30)))⟩ ::
⟨(some 6), none, (.op (.mv (.t 31)))⟩ :: []))) (.reg (
    ⟨(some 27), none, (.op (.mv (.t 7)))⟩ ::
⟨(some 28), none, (.op (.int .add (.t 27) (.c (Value.int .i64 1))))⟩ ::
⟨(some 7), none, (.op (.mv (.t 28)))⟩ :: []))))))) (.reg (
    ⟨(some 32), none, (.op (.mv (.t 4)))⟩ ::
⟨(some 33), none, (.op (.mv (.t 6)))⟩ ::
⟨(some 34), none, (.op (.bslice [Value.slice none 0 0] [(0, 1, (.t 33))] 1 27))⟩ ::
⟨(some 35), none, (.op (.append 27 1 24 (.t 32) (.t 34)))⟩ ::
⟨(some 4), none, (.op (.mv (.t 35)))⟩ :: []))))) (.reg (
    ⟨(some 22), none, (.op (.mv (.t 5)))⟩ ::
⟨(some 23), none, (.op (.int .add (.t 22) (.c (Value.int .i64 1))))⟩ ::
⟨(some 5), none, (.op (.mv (.t 23)))⟩ :: []))))))) (.seq (.seq (.reg (
    ⟨(some 8), none, (.op (.mv (.c (Value.int .i64 0))))⟩ :: [])) (.block 4 (.loop (.seq (.seq (.reg (
    ⟨(some 36), none, (.op (.mv (.t 8)))⟩ ::
⟨(some 37), none, (.op (.faddr 0 (.t 1)))⟩ ::
⟨(some 38), none, (.op (.load1 (.t 37)))⟩ ::
⟨(some 39), none, (.op (.int .lss (.t 36) (.t 38)))⟩ :: [])) (.cond (.t 39) .skip (.exit 4))) (.seq (.block 5 (.dreg (
    ⟨(some 42), none, (.op (.mv (.t 4)))⟩ ::
⟨(some 43), none, (.op (.ixsl 1 (.t 42) (.c (Value.int .i64 0))))⟩ ::
⟨(some 44), none, (.op (.load1 (.t 43)))⟩ ::
⟨(some 45), none, (.op (.mv (.t 8)))⟩ ::
⟨(some 46), none, (.op (.int .add (.c (Value.int .i64 1)) (.t 45)))⟩ ::
⟨(some 47), none, (.op (.mv (.t 4)))⟩ ::
⟨(some 48), none, (.op (.mv (.t 8)))⟩ ::
⟨(some 49), none, (.op (.int .add (.c (Value.int .i64 1)) (.t 48)))⟩ ::
⟨(some 50), none, (.op (.ixsl 1 (.t 47) (.t 49)))⟩ ::
⟨(some 51), none, (.op (.load1 (.t 50)))⟩ ::
⟨(some 52), none, (.op (.faddr 2 (.t 1)))⟩ ::
⟨(some 53), none, (.op (.faddr 1 (.t 52)))⟩ ::
⟨(some 54), none, (.op (.load1 (.t 53)))⟩ ::
⟨(some 55), none, (.op (.faddr 2 (.t 1)))⟩ ::
⟨(some 56), none, (.op (.faddr 0 (.t 55)))⟩ ::
⟨(some 57), none, (.op (.load1 (.t 56)))⟩ ::
⟨(some 58), none, (.op (.neg (.t 57)))⟩ ::
⟨(some 59), none, (.op (.ixsl 1 (.t 44) (.t 46)))⟩ ::
⟨none, none, (.op (.store 1 (.t 59) (.t 54)))⟩ ::
⟨(some 60), none, (.op (.ixsl 1 (.t 51) (.c (Value.int .i64 0))))⟩ ::
⟨none, none, (.op (.store 1 (.t 60) (.t 58)))⟩ :: []) [((.t 56), (.t 59))])) (.reg (
    ⟨(some 40), none, (.op (.mv (.t 8)))⟩ ::
⟨(some 41), none, (.op (.int .add (.t 40) (.c (Value.int .i64 1))))⟩ ::
⟨(some 8), none, (.op (.mv (.t 41)))⟩ :: []))))))) (.seq (.seq (.reg (
    ⟨(some 9), none, (.op (.mv (.c (Value.int .i64 0))))⟩ :: [])) (.block 6 (.loop (.seq (.seq (.reg (
    ⟨(some 61), none, (.op (.mv (.t 9)))⟩ ::
⟨(some 62), none, (.op (.faddr 4 (.t 1)))⟩ ::
⟨(some 63), none, (.op (.load1 (.t 62)))⟩ ::
⟨(some 64), none, (.op (.len (.t 63)))⟩ ::
⟨(some 65), none, (.op (.int .lss (.t 61) (.t 64)))⟩ :: [])) (.cond (.t 65) .skip (.exit 6))) (.seq (.block 7 (.seq (.reg (
    ⟨(some 68), none, (.op (.faddr 4 (.t 1)))⟩ ::
⟨(some 69), none, (.op (.load1 (.t 68)))⟩ ::
⟨(some 70), none, (.op (.mv (.t 9)))⟩ ::
⟨(some 71), none, (.op (.ixsl 4 (.t 69) (.t 70)))⟩ ::
⟨(some 72), none, (.op (.loadn 4 (.t 71)))⟩ ::
⟨(some 10), none, (.op (.alloc [Value.int .i64 0, Value.int .i64 0, Value.int .i64 0, Value.int .i64 0] 42))⟩ ::
⟨none, none, (.op (.store 4 (.t 10) (.t 72)))⟩ :: [])) (.seq (.dreg (
    ⟨(some 73), none, (.op (.faddr 0 (.t 10)))⟩ ::
⟨(some 74), none, (.op (.load1 (.t 73)))⟩ ::
⟨(some 75), none, (.op (.int .add (.c (Value.int .i64 1)) (.t 74)))⟩ ::
⟨(some 76), none, (.op (.faddr 0 (.t 1)))⟩ ::
⟨(some 77), none, (.op (.load1 (.t 76)))⟩ ::
⟨(some 78), none, (.op (.int .add (.c (Value.int .i64 1)) (.t 77)))⟩ ::
⟨(some 79), none, (.op (.faddr 1 (.t 10)))⟩ ::
⟨(some 80), none, (.op (.load1 (.t 79)))⟩ ::
⟨(some 81), none, (.op (.int .add (.t 78) (.t 80)))⟩ ::
⟨(some 11), none, (.op (.mv (.t 75)))⟩ ::
⟨(some 12), none, (.op (.mv (.t 81)))⟩ :: []) []) (.seq (.dreg (
    ⟨(some 82), none, (.op (.mv (.t 4)))⟩ ::
⟨(some 83), none, (.op (.mv (.t 12)))⟩ ::
⟨(some 84), none, (.op (.ixsl 1 (.t 82) (.t 83)))⟩ ::
⟨(some 85), none, (.op (.load1 (.t 84)))⟩ ::
⟨(some 86), none, (.op (.mv (.t 11)))⟩ ::
⟨(some 87), none, (.op (.mv (.t 4)))⟩ ::
⟨(some 88), none, (.op (.mv (.t 12)))⟩ ::
⟨(some 89), none, (.op (.ixsl 1 (.t 87) (.t 88)))⟩ ::
⟨(some 90), none, (.op (.load1 (.t 89)))⟩ ::
⟨(some 91), none, (.op (.mv (.t 11)))⟩ ::
⟨(some 92), none, (.op (.ixsl 1 (.t 90) (.t 91)))⟩ ::
⟨(some 93), none, (.op (.load1 (.t 92)))⟩ ::
⟨(some 94), none, (.op (.faddr 2 (.t 10)))⟩ ::
⟨(some 95), none, (.op (.faddr 1 (.t 94)))⟩ ::
⟨(some 96), none, (.op (.load1 (.t 95)))⟩ ::
⟨(some 97), none, (.op (.mnmx false (.t 93) (.t 96)))⟩ ::
⟨(some 98), none, (.op (.ixsl 1 (.t 85) (.t 86)))⟩ ::
⟨none, none, (.op (.store 1 (.t 98) (.t 97)))⟩ :: []) []) (.dreg (
    ⟨(some 99), none, (.op (.mv (.t 4)))⟩ ::
⟨(some 100), none, (.op (.mv (.t 11)))⟩ ::
⟨(some 101), none, (.op (.ixsl 1 (.t 99) (.t 100)))⟩ ::
⟨(some 102), none, (.op (.load1 (.t 101)))⟩ ::
⟨(some 103), none, (.op (.mv (.t 12)))⟩ ::
⟨(some 104), none, (.op (.mv (.t 4)))⟩ ::
⟨(some 105), none, (.op (.mv (.t 11)))⟩ ::
⟨(some 106), none, (.op (.ixsl 1 (.t 104) (.t 105)))⟩ ::
⟨(some 107), none, (.op (.load1 (.t 106)))⟩ ::
⟨(some 108), none, (.op (.mv (.t 12)))⟩ ::
⟨(some 109), none, (.op (.ixsl 1 (.t 107) (.t 108)))⟩ ::
⟨(some 110), none, (.op (.load1 (.t 109)))⟩ ::
⟨(some 111), none, (.op (.faddr 2 (.t 10)))⟩ ::
⟨(some 112), none, (.op (.faddr 0 (.t 111)))⟩ ::
⟨(some 113), none, (.op (.load1 (.t 112)))⟩ ::
⟨(some 114), none, (.op (.neg (.t 113)))⟩ ::
⟨(some 115), none, (.op (.mnmx false (.t 110) (.t 114)))⟩ ::
⟨(some 116), none, (.op (.ixsl 1 (.t 102) (.t 103)))⟩ ::
⟨none, none, (.op (.store 1 (.t 116) (.t 115)))⟩ :: []) []))))) (.reg (
    ⟨(some 66), none, (.op (.mv (.t 9)))⟩ ::
⟨(some 67), none, (.op (.int .add (.t 66) (.c (Value.int .i64 1))))⟩ ::
⟨(some 9), none, (.op (.mv (.t 67)))⟩ :: []))))))) (.seq (.reg (
    ⟨(some 117), none, (.op (.mv (.t 4)))⟩ ::
⟨(some 2), none, (.op (.mv (.t 117)))⟩ :: [])) .ret)))))))
def r44 : List ResultVar := [.tmp 2]
set_option maxRecDepth 1000000 in
set_option maxHeartbeats 4000000 in
theorem fun44 : Fun Try.prog 44 118 1 a44 r44 :=
  ⟨rfl, Try.f44, _, rfl, rfl, rfl, by decide, rfl, rfl, rfl⟩
/-- slices.ContainsFunc[[]tumblehome/api.AgreeTest,tumblehome/api.AgreeTest] -/
noncomputable def a45 : ACode := (.seq (.reg (
    ⟨(some 4), none, (.op (.mv (.c (Value.bool false))))⟩ :: [])) (.seq (.reg (
    ⟨(some 5), none, (.op (.mv (.t 0)))⟩ ::
⟨(some 6), none, (.op (.mv (.t 1)))⟩ ::
⟨(some 7), none, (.call (.c (Value.func (.func 59) #[] #[])) [(.t 5), (.t 6)])⟩ ::
⟨(some 8), none, (.op (.int .geq (.t 7) (.c (Value.int .i64 0))))⟩ ::
⟨(some 4), none, (.op (.mv (.t 8)))⟩ :: [])) .ret))
def r45 : List ResultVar := [.tmp 4]
set_option maxRecDepth 1000000 in
set_option maxHeartbeats 4000000 in
theorem fun45 : Fun Try.prog 45 9 2 a45 r45 :=
  ⟨rfl, Try.f45, _, rfl, rfl, rfl, by decide, rfl, rfl, rfl⟩
/-- tumblehome/agree.hulls$1 -/
noncomputable def a46 : ACode := (.seq (.reg (
    ⟨(some 2), none, (.op (.box (.t 0) 42))⟩ ::
⟨(some 3), none, (.op (.mv (.c (Value.bool false))))⟩ :: [])) (.seq (.reg (
    ⟨(some 4), none, (.op (.faddr 1 (.t 2)))⟩ ::
⟨(some 5), none, (.op (.load1 (.t 4)))⟩ ::
⟨(some 6), none, (.op (.load1 (.t 1)))⟩ ::
⟨(some 7), none, (.op (.int .eql (.t 5) (.t 6)))⟩ ::
⟨(some 3), none, (.op (.mv (.t 7)))⟩ :: [])) .ret))
def r46 : List ResultVar := [.tmp 3]
set_option maxRecDepth 1000000 in
set_option maxHeartbeats 4000000 in
theorem fun46 : Fun Try.prog 46 8 2 a46 r46 :=
  ⟨rfl, Try.f46, _, rfl, rfl, rfl, by decide, rfl, rfl, rfl⟩
/-- (*tumblehome/agree.net).from -/
noncomputable def a47A0 : ACode := (.reg (
    ⟨(some 7), none, (.op (.alloc [Value.int .i64 0, Value.int .i64 0, Value.int .i64 0] 110))⟩ ::
⟨none, none, (.op (.store 3 (.t 7) (.t 31)))⟩ :: []))
noncomputable def a47B0 : ACode := (.block 3 (.seq (.dreg (
    ⟨(some 32), none, (.op (.load1 (.t 6)))⟩ ::
⟨(some 33), none, (.op (.faddr 0 (.t 7)))⟩ ::
⟨(some 34), none, (.op (.load1 (.t 33)))⟩ ::
⟨(some 35), none, (.op (.nilck (.t 32)))⟩ ::
⟨(some 36), none, (.op (.faddr 1 (.t 35)))⟩ ::
⟨(some 37), none, (.op (.ixarr 13 2 (.t 36) (.t 34)))⟩ ::
⟨(some 38), none, (.op (.loadn 2 (.t 37)))⟩ ::
⟨(some 39), none, (.op (.load1 (.t 6)))⟩ ::
⟨(some 40), none, (.op (.faddr 1 (.t 7)))⟩ ::
⟨(some 41), none, (.op (.load1 (.t 40)))⟩ ::
⟨(some 42), none, (.op (.nilck (.t 39)))⟩ ::
⟨(some 43), none, (.op (.faddr 1 (.t 42)))⟩ ::
⟨(some 44), none, (.op (.ixarr 13 2 (.t 43) (.t 41)))⟩ ::
⟨(some 45), none, (.op (.loadn 2 (.t 44)))⟩ ::
⟨(some 8), none, (.op (.alloc [Value.bool false, Value.int .i64 0] 78))⟩ ::
⟨(some 9), none, (.op (.alloc [Value.bool false, Value.int .i64 0] 78))⟩ ::
⟨none, none, (.op (.store 2 (.t 8) (.t 38)))⟩ ::
⟨none, none, (.op (.store 2 (.t 9) (.t 45)))⟩ :: []) [((.t 6), (.t 8)), ((.t 40), (.t 8)), ((.t 44), (.t 8))]) (.seq (.reg (
    ⟨(some 46), none, (.op (.faddr 0 (.t 8)))⟩ ::
⟨(some 47), none, (.op (.load1 (.t 46)))⟩ ::
⟨(some 48), none, (.op (.mv (.t 47)))⟩ ::
⟨(some 49), (some (48, true)), (.op (.faddr 0 (.t 9)))⟩ ::
⟨(some 50), (some (48, true)), (.op (.load1 (.t 49)))⟩ ::
⟨(some 51), (some (48, true)), (.op (.not (.t 50)))⟩ ::
⟨(some 52), (some (48, true)), (.op (.mv (.t 51)))⟩ ::
⟨(some 53), (some (52, false)), (.op (.faddr 1 (.t 8)))⟩ ::
⟨(some 54), (some (52, false)), (.op (.load1 (.t 53)))⟩ ::
⟨(some 55), (some (52, false)), (.op (.faddr 2 (.t 7)))⟩ ::
⟨(some 56), (some (52, false)), (.op (.load1 (.t 55)))⟩ ::
⟨(some 57), (some (52, false)), (.op (.int .add (.t 54) (.t 56)))⟩ ::
⟨(some 58), (some (52, false)), (.op (.faddr 1 (.t 9)))⟩ ::
⟨(some 59), (some (52, false)), (.op (.load1 (.t 58)))⟩ ::
⟨(some 60), (some (52, false)), (.op (.int .lss (.t 57) (.t 59)))⟩ ::
⟨(some 61), (some (48, true)), (.op (.pick (.t 52) (.c (Value.bool true)) (.t 60)))⟩ ::
⟨(some 62), none, (.op (.pick (.t 48) (.t 61) (.c (Value.bool false))))⟩ :: [])) (.cond (.t 62) (.seq (.dreg (
    ⟨(some 63), none, (.op (.load1 (.t 6)))⟩ ::
⟨(some 64), none, (.op (.faddr 1 (.t 7)))⟩ ::
⟨(some 65), none, (.op (.load1 (.t 64)))⟩ ::
⟨(some 66), none, (.op (.faddr 1 (.t 8)))⟩ ::
⟨(some 67), none, (.op (.load1 (.t 66)))⟩ ::
⟨(some 68), none, (.op (.faddr 2 (.t 7)))⟩ ::
⟨(some 69), none, (.op (.load1 (.t 68)))⟩ ::
⟨(some 70), none, (.op (.int .add (.t 67) (.t 69)))⟩ ::
⟨(some 71), none, (.op (.build [Value.bool false, Value.int .i64 0] [(0, 1, (.c (Value.bool true))), (1, 1, (.t 70))]))⟩ ::
⟨(some 72), none, (.op (.nilck (.t 63)))⟩ ::
⟨(some 73), none, (.op (.faddr 1 (.t 72)))⟩ ::
⟨(some 74), none, (.op (.ixarr 13 2 (.t 73) (.t 65)))⟩ ::
⟨none, none, (.op (.store 2 (.t 74) (.t 71)))⟩ :: []) []) (.seq (.dreg (
    ⟨(some 75), none, (.op (.load1 (.t 6)))⟩ ::
⟨(some 76), none, (.op (.nilck (.t 75)))⟩ ::
⟨(some 77), none, (.op (.faddr 27 (.t 76)))⟩ ::
⟨(some 78), none, (.op (.load1 (.t 77)))⟩ ::
⟨(some 79), none, (.op (.faddr 1 (.t 7)))⟩ ::
⟨(some 80), none, (.op (.load1 (.t 79)))⟩ ::
⟨(some 81), none, (.op (.faddr 0 (.t 7)))⟩ ::
⟨(some 82), none, (.op (.load1 (.t 81)))⟩ ::
⟨none, none, (.op (.mapup 3 (.t 78) (.t 80) (.t 82)))⟩ :: []) []) (.reg (
    ⟨(some 83), none, (.op (.load1 (.t 6)))⟩ ::
⟨(some 84), none, (.op (.faddr 1 (.t 7)))⟩ ::
⟨(some 85), none, (.op (.load1 (.t 84)))⟩ ::
⟨(some 86), none, (.op (.nilck (.t 83)))⟩ ::
⟨(some 87), none, (.op (.faddr 28 (.t 86)))⟩ ::
⟨none, none, (.op (.store 1 (.t 87) (.t 85)))⟩ :: [])))) .skip))))
set_option maxRecDepth 1000000 in
set_option maxHeartbeats 4000000 in
theorem c47A0 : cCode Try.prog 95 false (rfAt Try.f47 0).1 = some a47A0 := rfl
set_option maxRecDepth 1000000 in
set_option maxHeartbeats 4000000 in
theorem c47B0 : cCode Try.prog 95 false (rfAt Try.f47 0).2 = some a47B0 := rfl
noncomputable def a47 : ACode := (.seq (.reg (
    ⟨(some 4), none, (.op (.mv (.c (Value.pointer none))))⟩ ::
⟨(some 5), none, (.op (.mv (.c (Value.bool false))))⟩ :: [])) (.seq (.reg (
    ⟨(some 10), none, (.op (.mv (.t 0)))⟩ ::
⟨(some 11), none, (.op (.mkmap))⟩ ::
⟨(some 12), none, (.op (.build [Value.pointer none, Value.bool false, Value.int .i64 0, Value.bool false, Value.int .i64 0, Value.bool false, Value.int .i64 0, Value.bool false, Value.int .i64 0, Value.bool false, Value.int .i64 0, Value.bool false, Value.int .i64 0, Value.bool false, Value.int .i64 0, Value.bool false, Value.int .i64 0, Value.bool false, Value.int .i64 0, Value.bool false, Value.int .i64 0, Value.bool false, Value.int .i64 0, Value.bool false, Value.int .i64 0, Value.bool false, Value.int .i64 0, Value.map none, Value.int .i64 0] [(0, 1, (.t 10)), (27, 1, (.t 11)), (28, 1, (.c (Value.int .i64 (-1))))]))⟩ ::
⟨(some 13), none, (.op (.box (.t 12) 95))⟩ ::
⟨(some 6), none, (.op (.alloc [Value.pointer none] 63))⟩ ::
⟨none, none, (.op (.store 1 (.t 6) (.t 13)))⟩ :: [])) (.seq (.reg (
    ⟨(some 14), none, (.op (.load1 (.t 6)))⟩ ::
⟨(some 15), none, (.op (.mv (.t 1)))⟩ ::
⟨(some 16), none, (.op (.build [Value.bool false, Value.int .i64 0] [(0, 1, (.c (Value.bool true))), (1, 1, (.c (Value.int .i64 0)))]))⟩ ::
⟨(some 17), none, (.op (.nilck (.t 14)))⟩ ::
⟨(some 18), none, (.op (.faddr 1 (.t 17)))⟩ ::
⟨(some 19), none, (.op (.ixarr 13 2 (.t 18) (.t 15)))⟩ ::
⟨none, none, (.op (.store 2 (.t 19) (.t 16)))⟩ :: [])) (.seq (.seq (.reg (
    ⟨(some 20), none, (.op (.mv (.t 0)))⟩ ::
⟨(some 21), none, (.op (.nilck (.t 20)))⟩ ::
⟨(some 22), none, (.op (.faddr 5 (.t 21)))⟩ ::
⟨(some 23), none, (.op (.load1 (.t 22)))⟩ ::
⟨(some 24), none, (.op (.mv (.c (Value.int .i64 0))))⟩ :: [])) (.block 0 (.loop (.seq (.reg (
    ⟨(some 25), none, (.op (.int .lss (.t 24) (.t 23)))⟩ :: [])) (.seq (.cond (.t 25) .skip (.exit 0)) (.seq (.block 1 (.seq (.reg (
    ⟨(some 26), none, (.op (.load1 (.t 6)))⟩ ::
⟨(some 27), none, (.op (.nilck (.t 26)))⟩ ::
⟨(some 28), none, (.op (.faddr 28 (.t 27)))⟩ ::
⟨none, none, (.op (.store 1 (.t 28) (.c (Value.int .i64 (-1)))))⟩ :: [])) (.seq (.reg (
    ⟨(some 29), none, (.op (.mv (.t 0)))⟩ ::
⟨(some 30), none, (.call (.c (Value.func (.func 60) #[] #[])) [(.t 29)])⟩ :: [])) (.block 2 (.range (.t 30) [31] 95 (rfAt Try.f47 0).1 (rfAt Try.f47 0).2 a47A0 a47B0))))) (.reg (
    ⟨(some 88), none, (.op (.int .add (.t 24) (.c (Value.int .i64 1))))⟩ ::
⟨(some 24), none, (.op (.mv (.t 88)))⟩ :: [])))))))) (.seq (.dreg (
    ⟨(some 89), none, (.op (.load1 (.t 6)))⟩ ::
⟨(some 90), none, (.op (.load1 (.t 6)))⟩ ::
⟨(some 91), none, (.op (.nilck (.t 90)))⟩ ::
⟨(some 92), none, (.op (.faddr 28 (.t 91)))⟩ ::
⟨(some 93), none, (.op (.load1 (.t 92)))⟩ ::
⟨(some 94), none, (.op (.int .lss (.t 93) (.c (Value.int .i64 0))))⟩ ::
⟨(some 4), none, (.op (.mv (.t 89)))⟩ ::
⟨(some 5), none, (.op (.mv (.t 94)))⟩ :: []) []) .ret)))))
def r47 : List ResultVar := [.tmp 4, .tmp 5]
set_option maxRecDepth 1000000 in
set_option maxHeartbeats 4000000 in
theorem fun47 : Fun Try.prog 47 95 2 a47 r47 :=
  ⟨rfl, Try.f47, _, rfl, rfl, rfl, by decide, rfl, rfl, rfl⟩
/-- (*tumblehome/agree.heights).at -/
noncomputable def a48 : ACode := (.seq (.reg (
    ⟨(some 4), none, (.op (.mv (.c (Value.int .i64 0))))⟩ :: [])) (.seq (.reg (
    ⟨(some 5), none, (.op (.mv (.t 0)))⟩ ::
⟨(some 6), none, (.op (.mv (.t 1)))⟩ ::
⟨(some 7), none, (.op (.nilck (.t 5)))⟩ ::
⟨(some 8), none, (.op (.faddr 1 (.t 7)))⟩ ::
⟨(some 9), none, (.op (.ixarr 13 2 (.t 8) (.t 6)))⟩ ::
⟨(some 10), none, (.op (.faddr 1 (.t 9)))⟩ ::
⟨(some 11), none, (.op (.load1 (.t 10)))⟩ ::
⟨(some 4), none, (.op (.mv (.t 11)))⟩ :: [])) .ret))
def r48 : List ResultVar := [.tmp 4]
set_option maxRecDepth 1000000 in
set_option maxHeartbeats 4000000 in
theorem fun48 : Fun Try.prog 48 12 2 a48 r48 :=
  ⟨rfl, Try.f48, _, rfl, rfl, rfl, by decide, rfl, rfl, rfl⟩
/-- tumblehome/agree.CheckTable$1 -/
noncomputable def a49 : ACode := (.seq (.reg (
    ⟨(some 4), none, (.op (.mv (.c (Value.bool false))))⟩ :: [])) (.seq (.reg (
    ⟨(some 5), none, (.op (.mv (.t 0)))⟩ ::
⟨(some 6), none, (.op (.int .geq (.t 5) (.c (Value.int .i64 0))))⟩ ::
⟨(some 7), none, (.op (.mv (.t 6)))⟩ ::
⟨(some 8), (some (7, true)), (.op (.mv (.t 0)))⟩ ::
⟨(some 9), (some (7, true)), (.op (.mv (.t 1)))⟩ ::
⟨(some 10), (some (7, true)), (.op (.int .lss (.t 8) (.t 9)))⟩ ::
⟨(some 11), none, (.op (.pick (.t 7) (.t 10) (.c (Value.bool false))))⟩ ::
⟨(some 4), none, (.op (.mv (.t 11)))⟩ :: [])) .ret))
def r49 : List ResultVar := [.tmp 4]
set_option maxRecDepth 1000000 in
set_option maxHeartbeats 4000000 in
theorem fun49 : Fun Try.prog 49 12 2 a49 r49 :=
  ⟨rfl, Try.f49, _, rfl, rfl, rfl, by decide, rfl, rfl, rfl⟩
/-- tumblehome/agree.isRange -/
noncomputable def a50 : ACode := (.seq (.reg (
    ⟨(some 1), none, (.op (.box (.t 0) 23))⟩ ::
⟨(some 2), none, (.op (.mv (.c (Value.bool false))))⟩ :: [])) (.seq (.reg (
    ⟨(some 3), none, (.op (.faddr 0 (.t 1)))⟩ ::
⟨(some 4), none, (.op (.load1 (.t 3)))⟩ ::
⟨(some 5), none, (.op (.faddr 1 (.t 1)))⟩ ::
⟨(some 6), none, (.op (.load1 (.t 5)))⟩ ::
⟨(some 7), none, (.op (.int .leq (.t 4) (.t 6)))⟩ ::
⟨(some 8), none, (.op (.mv (.t 7)))⟩ ::
⟨(some 9), (some (8, true)), (.op (.faddr 0 (.t 1)))⟩ ::
⟨(some 10), (some (8, true)), (.op (.load1 (.t 9)))⟩ ::
⟨(some 11), (some (8, true)), (.op (.faddr 1 (.t 1)))⟩ ::
⟨(some 12), (some (8, true)), (.op (.load1 (.t 11)))⟩ ::
⟨(some 13), (some (8, true)), (.op (.bslice [Value.int .i64 0, Value.int .i64 0] [(0, 1, (.t 10)), (1, 1, (.t 12))] 2 2))⟩ ::
⟨(some 14), (some (8, true)), (.call (.c (Value.func (.func 35) #[] #[])) [(.c (Value.int .i64 1000000)), (.t 13)])⟩ ::
⟨(some 15), none, (.op (.pick (.t 8) (.t 14) (.c (Value.bool false))))⟩ ::
⟨(some 2), none, (.op (.mv (.t 15)))⟩ :: [])) .ret))
def r50 : List ResultVar := [.tmp 2]
set_option maxRecDepth 1000000 in
set_option maxHeartbeats 4000000 in
theorem fun50 : Fun Try.prog 50 16 1 a50 r50 :=
  ⟨rfl, Try.f50, _, rfl, rfl, rfl, by decide, rfl, rfl, rfl⟩
/-- tumblehome/agree.CheckTable$2 -/
noncomputable def a51 : ACode := (.seq (.reg (
    ⟨(some 3), none, (.op (.box (.t 0) 42))⟩ ::
⟨(some 4), none, (.op (.mv (.c (Value.bool false))))⟩ :: [])) (.seq (.reg (
    ⟨(some 5), none, (.op (.load1 (.t 1)))⟩ ::
⟨(some 6), none, (.op (.faddr 0 (.t 3)))⟩ ::
⟨(some 7), none, (.op (.load1 (.t 6)))⟩ ::
⟨(some 8), none, (.op (.faddr 0 (.t 2)))⟩ ::
⟨(some 9), none, (.op (.load1 (.t 8)))⟩ ::
⟨(some 10), none, (.call (.t 5) [(.t 7), (.t 9)])⟩ ::
⟨(some 11), none, (.op (.not (.t 10)))⟩ ::
⟨(some 12), none, (.op (.mv (.t 11)))⟩ ::
⟨(some 13), (some (12, false)), (.op (.load1 (.t 1)))⟩ ::
⟨(some 14), (some (12, false)), (.op (.faddr 1 (.t 3)))⟩ ::
⟨(some 15), (some (12, false)), (.op (.load1 (.t 14)))⟩ ::
⟨(some 16), (some (12, false)), (.op (.faddr 1 (.t 2)))⟩ ::
⟨(some 17), (some (12, false)), (.op (.load1 (.t 16)))⟩ ::
⟨(some 18), (some (12, false)), (.call (.t 13) [(.t 15), (.t 17)])⟩ ::
⟨(some 19), (some (12, false)), (.op (.not (.t 18)))⟩ ::
⟨(some 20), none, (.op (.pick (.t 12) (.c (Value.bool true)) (.t 19)))⟩ ::
⟨(some 4), none, (.op (.mv (.t 20)))⟩ :: [])) .ret))
def r51 : List ResultVar := [.tmp 4]
set_option maxRecDepth 1000000 in
set_option maxHeartbeats 4000000 in
theorem fun51 : Fun Try.prog 51 21 3 a51 r51 :=
  ⟨rfl, Try.f51, _, rfl, rfl, rfl, by decide, rfl, rfl, rfl⟩
/-- tumblehome/agree.CheckTable$3 -/
noncomputable def a52 : ACode := (.seq (.reg (
    ⟨(some 1), none, (.op (.box (.t 0) 42))⟩ ::
⟨(some 2), none, (.op (.mv (.c (Value.bool false))))⟩ :: [])) (.seq (.reg (
    ⟨(some 3), none, (.op (.faddr 2 (.t 1)))⟩ ::
⟨(some 4), none, (.op (.loadn 2 (.t 3)))⟩ ::
⟨(some 5), none, (.call (.c (Value.func (.func 50) #[] #[])) [(.t 4)])⟩ ::
⟨(some 6), none, (.op (.not (.t 5)))⟩ ::
⟨(some 2), none, (.op (.mv (.t 6)))⟩ :: [])) .ret))
def r52 : List ResultVar := [.tmp 2]
set_option maxRecDepth 1000000 in
set_option maxHeartbeats 4000000 in
theorem fun52 : Fun Try.prog 52 7 1 a52 r52 :=
  ⟨rfl, Try.f52, _, rfl, rfl, rfl, by decide, rfl, rfl, rfl⟩
/-- slices.ContainsFunc[[]int64,int64] -/
noncomputable def a53 : ACode := (.seq (.reg (
    ⟨(some 4), none, (.op (.mv (.c (Value.bool false))))⟩ :: [])) (.seq (.reg (
    ⟨(some 5), none, (.op (.mv (.t 0)))⟩ ::
⟨(some 6), none, (.op (.mv (.t 1)))⟩ ::
⟨(some 7), none, (.call (.c (Value.func (.func 61) #[] #[])) [(.t 5), (.t 6)])⟩ ::
⟨(some 8), none, (.op (.int .geq (.t 7) (.c (Value.int .i64 0))))⟩ ::
⟨(some 4), none, (.op (.mv (.t 8)))⟩ :: [])) .ret))
def r53 : List ResultVar := [.tmp 4]
set_option maxRecDepth 1000000 in
set_option maxHeartbeats 4000000 in
theorem fun53 : Fun Try.prog 53 9 2 a53 r53 :=
  ⟨rfl, Try.f53, _, rfl, rfl, rfl, by decide, rfl, rfl, rfl⟩
/-- tumblehome/agree.within$1 -/
noncomputable def a54 : ACode := (.seq (.reg (
    ⟨(some 3), none, (.op (.mv (.c (Value.bool false))))⟩ :: [])) (.seq (.reg (
    ⟨(some 4), none, (.op (.mv (.t 0)))⟩ ::
⟨(some 5), none, (.op (.load1 (.t 1)))⟩ ::
⟨(some 6), none, (.op (.neg (.t 5)))⟩ ::
⟨(some 7), none, (.op (.int .lss (.t 4) (.t 6)))⟩ ::
⟨(some 8), none, (.op (.mv (.t 7)))⟩ ::
⟨(some 9), (some (8, false)), (.op (.mv (.t 0)))⟩ ::
⟨(some 10), (some (8, false)), (.op (.load1 (.t 1)))⟩ ::
⟨(some 11), (some (8, false)), (.op (.int .gtr (.t 9) (.t 10)))⟩ ::
⟨(some 12), none, (.op (.pick (.t 8) (.c (Value.bool true)) (.t 11)))⟩ ::
⟨(some 3), none, (.op (.mv (.t 12)))⟩ :: [])) .ret))
def r54 : List ResultVar := [.tmp 3]
set_option maxRecDepth 1000000 in
set_option maxHeartbeats 4000000 in
theorem fun54 : Fun Try.prog 54 13 2 a54 r54 :=
  ⟨rfl, Try.f54, _, rfl, rfl, rfl, by decide, rfl, rfl, rfl⟩
/-- (*tumblehome/agree.net).put -/
noncomputable def a55 : ACode := (.seq (.reg (
    ⟨(some 9), none, (.op (.mv (.t 0)))⟩ ::
⟨(some 10), none, (.op (.mv (.t 1)))⟩ ::
⟨(some 11), none, (.op (.mv (.t 2)))⟩ ::
⟨(some 12), none, (.op (.nilck (.t 9)))⟩ ::
⟨(some 13), none, (.op (.faddr 6 (.t 12)))⟩ ::
⟨(some 14), none, (.op (.ixarr 13 26 (.t 13) (.t 10)))⟩ ::
⟨(some 15), none, (.op (.ixarr 13 2 (.t 14) (.t 11)))⟩ ::
⟨(some 16), none, (.op (.loadn 2 (.t 15)))⟩ ::
⟨(some 8), none, (.op (.alloc [Value.bool false, Value.int .i64 0] 78))⟩ ::
⟨none, none, (.op (.store 2 (.t 8) (.t 16)))⟩ :: [])) (.dreg (
    ⟨(some 17), none, (.op (.mv (.t 0)))⟩ ::
⟨(some 18), none, (.op (.mv (.t 1)))⟩ ::
⟨(some 19), none, (.op (.mv (.t 2)))⟩ ::
⟨(some 20), none, (.op (.mv (.t 3)))⟩ ::
⟨(some 21), none, (.op (.mkfn (Fn.func 63) [] [(.t 8)]))⟩ ::
⟨(some 22), none, (.call (.c (Value.func (.func 62) #[] #[])) [(.t 20), (.t 21)])⟩ ::
⟨(some 23), none, (.op (.build [Value.bool false, Value.int .i64 0] [(0, 1, (.c (Value.bool true))), (1, 1, (.t 22))]))⟩ ::
⟨(some 24), none, (.op (.nilck (.t 17)))⟩ ::
⟨(some 25), none, (.op (.faddr 6 (.t 24)))⟩ ::
⟨(some 26), none, (.op (.ixarr 13 26 (.t 25) (.t 18)))⟩ ::
⟨(some 27), none, (.op (.ixarr 13 2 (.t 26) (.t 19)))⟩ ::
⟨none, none, (.op (.store 2 (.t 27) (.t 23)))⟩ :: []) []))
def r55 : List ResultVar := []
set_option maxRecDepth 1000000 in
set_option maxHeartbeats 4000000 in
theorem fun55 : Fun Try.prog 55 28 4 a55 r55 :=
  ⟨rfl, Try.f55, _, rfl, rfl, rfl, by decide, rfl, rfl, rfl⟩
/-- slices.IndexFunc[[]int,int] -/
noncomputable def a56 : ACode := (.seq (.reg (
    ⟨(some 4), none, (.op (.mv (.c (Value.int .i64 0))))⟩ :: [])) (.seq (.seq (.reg (
    ⟨(some 6), none, (.op (.mv (.t 0)))⟩ ::
⟨(some 7), none, (.op (.len (.t 6)))⟩ ::
⟨(some 8), none, (.op (.mv (.c (Value.int .i64 0))))⟩ :: [])) (.block 0 (.loop (.seq (.reg (
    ⟨(some 9), none, (.op (.int .lss (.t 8) (.t 7)))⟩ :: [])) (.seq (.cond (.t 9) .skip (.exit 0)) (.seq (.block 1 (.seq (.reg (
    ⟨(some 10), none, (.op (.mv (.t 8)))⟩ ::
⟨(some 5), none, (.op (.mv (.t 10)))⟩ :: [])) (.seq (.reg (
    ⟨(some 11), none, (.op (.mv (.t 1)))⟩ ::
⟨(some 12), none, (.op (.mv (.t 0)))⟩ ::
⟨(some 13), none, (.op (.mv (.t 5)))⟩ ::
⟨(some 14), none, (.op (.ixsl 1 (.t 12) (.t 13)))⟩ ::
⟨(some 15), none, (.op (.load1 (.t 14)))⟩ ::
⟨(some 16), none, (.call (.t 11) [(.t 15)])⟩ :: [])) (.cond (.t 16) (.seq (.reg (
    ⟨(some 17), none, (.op (.mv (.t 5)))⟩ ::
⟨(some 4), none, (.op (.mv (.t 17)))⟩ :: [])) .ret) .skip)))) (.reg (
    ⟨(some 18), none, (.op (.int .add (.t 8) (.c (Value.int .i64 1))))⟩ ::
⟨(some 8), none, (.op (.mv (.t 18)))⟩ :: [])))))))) (.seq (.reg (
    ⟨(some 4), none, (.op (.mv (.c (Value.int .i64 (-1)))))⟩ :: [])) .ret)))
def r56 : List ResultVar := [.tmp 4]
set_option maxRecDepth 1000000 in
set_option maxHeartbeats 4000000 in
theorem fun56 : Fun Try.prog 56 19 2 a56 r56 :=
  ⟨rfl, Try.f56, _, rfl, rfl, rfl, by decide, rfl, rfl, rfl⟩
/-- maps.Clone[map[int]int,int,int] -/
noncomputable def a57 : ACode := (.seq (.reg (
    ⟨(some 2), none, (.op (.mv (.c (Value.map none))))⟩ :: [])) (.seq (.seq (.reg (
    ⟨(some 3), none, (.op (.mv (.t 0)))⟩ ::
⟨(some 4), none, (.op (.cmp none false (.t 3) (.c (Value.map none)) (rawOp Try.f57 1 1)))⟩ :: [])) (.cond (.t 4) (.seq (.reg (
    ⟨(some 2), none, (.op (.mv (.c (Value.map none))))⟩ :: [])) .ret) .skip)) (.seq (.reg (
    ⟨(some 5), none, (.op (.mv (.t 0)))⟩ ::
⟨(some 6), none, (.op (.mkif 93 (.t 5)))⟩ ::
⟨(some 7), none, (.call (.c (Value.func (.func 64) #[] #[])) [(.t 6)])⟩ ::
⟨(some 8), none, (.op (.tass 93 (Value.map none) false (.t 7)))⟩ ::
⟨(some 2), none, (.op (.mv (.t 8)))⟩ :: [])) .ret)))
def r57 : List ResultVar := [.tmp 2]
set_option maxRecDepth 1000000 in
set_option maxHeartbeats 4000000 in
theorem fun57 : Fun Try.prog 57 9 1 a57 r57 :=
  ⟨rfl, Try.f57, _, rfl, rfl, rfl, by decide, rfl, rfl, rfl⟩
/-- slices.Reverse[[]int,int] -/
noncomputable def a58 : ACode := (.seq (.reg (
    ⟨(some 4), none, (.op (.mv (.t 0)))⟩ ::
⟨(some 5), none, (.op (.len (.t 4)))⟩ ::
⟨(some 6), none, (.op (.int .sub (.t 5) (.c (Value.int .i64 1))))⟩ ::
⟨(some 2), none, (.op (.mv (.c (Value.int .i64 0))))⟩ ::
⟨(some 3), none, (.op (.mv (.t 6)))⟩ :: [])) (.block 0 (.loop (.seq (.seq (.reg (
    ⟨(some 7), none, (.op (.mv (.t 2)))⟩ ::
⟨(some 8), none, (.op (.mv (.t 3)))⟩ ::
⟨(some 9), none, (.op (.int .lss (.t 7) (.t 8)))⟩ :: [])) (.cond (.t 9) .skip (.exit 0))) (.seq (.block 1 (.dreg (
    ⟨(some 14), none, (.op (.mv (.t 0)))⟩ ::
⟨(some 15), none, (.op (.mv (.t 2)))⟩ ::
⟨(some 16), none, (.op (.mv (.t 0)))⟩ ::
⟨(some 17), none, (.op (.mv (.t 3)))⟩ ::
⟨(some 18), none, (.op (.mv (.t 0)))⟩ ::
⟨(some 19), none, (.op (.mv (.t 3)))⟩ ::
⟨(some 20), none, (.op (.ixsl 1 (.t 18) (.t 19)))⟩ ::
⟨(some 21), none, (.op (.load1 (.t 20)))⟩ ::
⟨(some 22), none, (.op (.mv (.t 0)))⟩ ::
⟨(some 23), none, (.op (.mv (.t 2)))⟩ ::
⟨(some 24), none, (.op (.ixsl 1 (.t 22) (.t 23)))⟩ ::
⟨(some 25), none, (.op (.load1 (.t 24)))⟩ ::
⟨(some 26), none, (.op (.ixsl 1 (.t 14) (.t 15)))⟩ ::
⟨none, none, (.op (.store 1 (.t 26) (.t 21)))⟩ ::
⟨(some 27), none, (.op (.ixsl 1 (.t 16) (.t 17)))⟩ ::
⟨none, none, (.op (.store 1 (.t 27) (.t 25)))⟩ :: []) [])) (.reg (
    ⟨(some 10), none, (.op (.mv (.t 2)))⟩ ::
⟨(some 11), none, (.op (.int .add (.t 10) (.c (Value.int .i64 1))))⟩ ::
⟨(some 12), none, (.op (.mv (.t 3)))⟩ ::
⟨(some 13), none, (.op (.int .sub (.t 12) (.c (Value.int .i64 1))))⟩ ::
⟨(some 2), none, (.op (.mv (.t 11)))⟩ ::
⟨(some 3), none, (.op (.mv (.t 13)))⟩ :: [])))))))
def r58 : List ResultVar := []
set_option maxRecDepth 1000000 in
set_option maxHeartbeats 4000000 in
theorem fun58 : Fun Try.prog 58 28 1 a58 r58 :=
  ⟨rfl, Try.f58, _, rfl, rfl, rfl, by decide, rfl, rfl, rfl⟩
/-- slices.IndexFunc[[]tumblehome/api.AgreeTest,tumblehome/api.AgreeTest] -/
noncomputable def a59 : ACode := (.seq (.reg (
    ⟨(some 4), none, (.op (.mv (.c (Value.int .i64 0))))⟩ :: [])) (.seq (.seq (.reg (
    ⟨(some 6), none, (.op (.mv (.t 0)))⟩ ::
⟨(some 7), none, (.op (.len (.t 6)))⟩ ::
⟨(some 8), none, (.op (.mv (.c (Value.int .i64 0))))⟩ :: [])) (.block 0 (.loop (.seq (.reg (
    ⟨(some 9), none, (.op (.int .lss (.t 8) (.t 7)))⟩ :: [])) (.seq (.cond (.t 9) .skip (.exit 0)) (.seq (.block 1 (.seq (.reg (
    ⟨(some 10), none, (.op (.mv (.t 8)))⟩ ::
⟨(some 5), none, (.op (.mv (.t 10)))⟩ :: [])) (.seq (.reg (
    ⟨(some 11), none, (.op (.mv (.t 1)))⟩ ::
⟨(some 12), none, (.op (.mv (.t 0)))⟩ ::
⟨(some 13), none, (.op (.mv (.t 5)))⟩ ::
⟨(some 14), none, (.op (.ixsl 4 (.t 12) (.t 13)))⟩ ::
⟨(some 15), none, (.op (.loadn 4 (.t 14)))⟩ ::
⟨(some 16), none, (.call (.t 11) [(.t 15)])⟩ :: [])) (.cond (.t 16) (.seq (.reg (
    ⟨(some 17), none, (.op (.mv (.t 5)))⟩ ::
⟨(some 4), none, (.op (.mv (.t 17)))⟩ :: [])) .ret) .skip)))) (.reg (
    ⟨(some 18), none, (.op (.int .add (.t 8) (.c (Value.int .i64 1))))⟩ ::
⟨(some 8), none, (.op (.mv (.t 18)))⟩ :: [])))))))) (.seq (.reg (
    ⟨(some 4), none, (.op (.mv (.c (Value.int .i64 (-1)))))⟩ :: [])) .ret)))
def r59 : List ResultVar := [.tmp 4]
set_option maxRecDepth 1000000 in
set_option maxHeartbeats 4000000 in
theorem fun59 : Fun Try.prog 59 19 2 a59 r59 :=
  ⟨rfl, Try.f59, _, rfl, rfl, rfl, by decide, rfl, rfl, rfl⟩
/-- (*tumblehome/agree.net).steps -/
noncomputable def a60 : ACode := (.seq (.reg (
    ⟨(some 1), none, (.op (.box (.t 0) 62))⟩ ::
⟨(some 2), none, (.op (.mv (.c (Value.nilFunc))))⟩ :: [])) (.seq (.reg (
    ⟨(some 3), none, (.op (.mkfn (Fn.func 65) [] [(.t 1)]))⟩ ::
⟨(some 2), none, (.op (.mv (.t 3)))⟩ :: [])) .ret))
def r60 : List ResultVar := [.tmp 2]
set_option maxRecDepth 1000000 in
set_option maxHeartbeats 4000000 in
theorem fun60 : Fun Try.prog 60 4 1 a60 r60 :=
  ⟨rfl, Try.f60, _, rfl, rfl, rfl, by decide, rfl, rfl, rfl⟩
/-- slices.IndexFunc[[]int64,int64] -/
noncomputable def a61 : ACode := (.seq (.reg (
    ⟨(some 4), none, (.op (.mv (.c (Value.int .i64 0))))⟩ :: [])) (.seq (.seq (.reg (
    ⟨(some 6), none, (.op (.mv (.t 0)))⟩ ::
⟨(some 7), none, (.op (.len (.t 6)))⟩ ::
⟨(some 8), none, (.op (.mv (.c (Value.int .i64 0))))⟩ :: [])) (.block 0 (.loop (.seq (.reg (
    ⟨(some 9), none, (.op (.int .lss (.t 8) (.t 7)))⟩ :: [])) (.seq (.cond (.t 9) .skip (.exit 0)) (.seq (.block 1 (.seq (.reg (
    ⟨(some 10), none, (.op (.mv (.t 8)))⟩ ::
⟨(some 5), none, (.op (.mv (.t 10)))⟩ :: [])) (.seq (.reg (
    ⟨(some 11), none, (.op (.mv (.t 1)))⟩ ::
⟨(some 12), none, (.op (.mv (.t 0)))⟩ ::
⟨(some 13), none, (.op (.mv (.t 5)))⟩ ::
⟨(some 14), none, (.op (.ixsl 1 (.t 12) (.t 13)))⟩ ::
⟨(some 15), none, (.op (.load1 (.t 14)))⟩ ::
⟨(some 16), none, (.call (.t 11) [(.t 15)])⟩ :: [])) (.cond (.t 16) (.seq (.reg (
    ⟨(some 17), none, (.op (.mv (.t 5)))⟩ ::
⟨(some 4), none, (.op (.mv (.t 17)))⟩ :: [])) .ret) .skip)))) (.reg (
    ⟨(some 18), none, (.op (.int .add (.t 8) (.c (Value.int .i64 1))))⟩ ::
⟨(some 8), none, (.op (.mv (.t 18)))⟩ :: [])))))))) (.seq (.reg (
    ⟨(some 4), none, (.op (.mv (.c (Value.int .i64 (-1)))))⟩ :: [])) .ret)))
def r61 : List ResultVar := [.tmp 4]
set_option maxRecDepth 1000000 in
set_option maxHeartbeats 4000000 in
theorem fun61 : Fun Try.prog 61 19 2 a61 r61 :=
  ⟨rfl, Try.f61, _, rfl, rfl, rfl, by decide, rfl, rfl, rfl⟩
/-- tumblehome/agree.lesser[int64] -/
noncomputable def a62 : ACode := (.seq (.reg (
    ⟨(some 4), none, (.op (.mv (.c (Value.int .i64 0))))⟩ :: [])) (.seq (.seq (.reg (
    ⟨(some 8), none, (.op (.mv (.t 1)))⟩ ::
⟨(some 9), none, (.call (.t 8) [])⟩ ::
⟨(some 7), none, (.op (.mv (.t 9)))⟩ ::
⟨(some 10), none, (.op (.extract (.t 7) 0))⟩ ::
⟨(some 11), none, (.op (.extract (.t 7) 1))⟩ ::
⟨(some 5), none, (.op (.mv (.t 10)))⟩ ::
⟨(some 6), none, (.op (.mv (.t 11)))⟩ :: [])) (.seq (.reg (
    ⟨(some 12), none, (.op (.mv (.t 6)))⟩ :: [])) (.cond (.t 12) (.seq (.reg (
    ⟨(some 13), none, (.op (.mv (.t 0)))⟩ ::
⟨(some 14), none, (.op (.mv (.t 5)))⟩ ::
⟨(some 15), none, (.op (.mnmx false (.t 13) (.t 14)))⟩ ::
⟨(some 4), none, (.op (.mv (.t 15)))⟩ :: [])) .ret) .skip))) (.seq (.reg (
    ⟨(some 16), none, (.op (.mv (.t 0)))⟩ ::
⟨(some 4), none, (.op (.mv (.t 16)))⟩ :: [])) .ret)))
def r62 : List ResultVar := [.tmp 4]
set_option maxRecDepth 1000000 in
set_option maxHeartbeats 4000000 in
theorem fun62 : Fun Try.prog 62 17 2 a62 r62 :=
  ⟨rfl, Try.f62, _, rfl, rfl, rfl, by decide, rfl, rfl, rfl⟩
/-- (*tumblehome/agree.net).put$1 -/
noncomputable def a63 : ACode := (.seq (.reg (
    ⟨(some 1), none, (.op (.mv (.c (Value.int .i64 0))))⟩ ::
⟨(some 2), none, (.op (.mv (.c (Value.bool false))))⟩ :: [])) (.seq (.dreg (
    ⟨(some 3), none, (.op (.faddr 1 (.t 0)))⟩ ::
⟨(some 4), none, (.op (.load1 (.t 3)))⟩ ::
⟨(some 5), none, (.op (.faddr 0 (.t 0)))⟩ ::
⟨(some 6), none, (.op (.load1 (.t 5)))⟩ ::
⟨(some 1), none, (.op (.mv (.t 4)))⟩ ::
⟨(some 2), none, (.op (.mv (.t 6)))⟩ :: []) []) .ret))
def r63 : List ResultVar := [.tmp 1, .tmp 2]
set_option maxRecDepth 1000000 in
set_option maxHeartbeats 4000000 in
theorem fun63 : Fun Try.prog 63 7 1 a63 r63 :=
  ⟨rfl, Try.f63, _, rfl, rfl, rfl, by decide, rfl, rfl, rfl⟩
/-- (*tumblehome/agree.net).steps$1 -/
noncomputable def a65 : ACode := (.seq (.reg (
    ⟨(some 7), none, (.op (.load1 (.t 1)))⟩ ::
⟨(some 8), none, (.op (.nilck (.t 7)))⟩ ::
⟨(some 9), none, (.op (.faddr 6 (.t 8)))⟩ ::
⟨(some 10), none, (.op (.loadn 338 (.t 9)))⟩ ::
⟨(some 11), none, (.op (.mv (.c (Value.int .i64 0))))⟩ :: [])) (.block 0 (.loop (.seq (.reg (
    ⟨(some 12), none, (.op (.int .lss (.t 11) (.c (Value.int .i64 13))))⟩ :: [])) (.seq (.cond (.t 12) .skip (.exit 0)) (.seq (.block 1 (.seq (.reg (
    ⟨(some 13), none, (.op (.mv (.t 11)))⟩ ::
⟨(some 14), none, (.op (.ixvn 13 26 (.t 10) (.t 11)))⟩ ::
⟨(some 4), none, (.op (.alloc [Value.bool false, Value.int .i64 0, Value.bool false, Value.int .i64 0, Value.bool false, Value.int .i64 0, Value.bool false, Value.int .i64 0, Value.bool false, Value.int .i64 0, Value.bool false, Value.int .i64 0, Value.bool false, Value.int .i64 0, Value.bool false, Value.int .i64 0, Value.bool false, Value.int .i64 0, Value.bool false, Value.int .i64 0, Value.bool false, Value.int .i64 0, Value.bool false, Value.int .i64 0, Value.bool false, Value.int .i64 0] 80))⟩ ::
⟨(some 3), none, (.op (.mv (.t 13)))⟩ ::
⟨none, none, (.op (.store 26 (.t 4) (.t 14)))⟩ :: [])) (.seq (.seq (.reg (
    ⟨(some 15), none, (.op (.loadn 26 (.t 4)))⟩ ::
⟨(some 16), none, (.op (.build [Value.bool false, Value.int .i64 0, Value.bool false, Value.int .i64 0, Value.bool false, Value.int .i64 0, Value.bool false, Value.int .i64 0, Value.bool false, Value.int .i64 0, Value.bool false, Value.int .i64 0, Value.bool false, Value.int .i64 0, Value.bool false, Value.int .i64 0, Value.bool false, Value.int .i64 0, Value.bool false, Value.int .i64 0, Value.bool false, Value.int .i64 0, Value.bool false, Value.int .i64 0, Value.bool false, Value.int .i64 0] []))⟩ ::
⟨(some 17), none, (.op (.pure (rawOp Try.f65 3 2)))⟩ :: [])) (.cond (.t 17) (.exit 1) .skip)) (.seq (.reg (
    ⟨(some 18), none, (.op (.loadn 26 (.t 4)))⟩ ::
⟨(some 19), none, (.op (.mv (.c (Value.int .i64 0))))⟩ :: [])) (.block 2 (.loop (.seq (.reg (
    ⟨(some 20), none, (.op (.int .lss (.t 19) (.c (Value.int .i64 13))))⟩ :: [])) (.seq (.cond (.t 20) .skip (.exit 2)) (.seq (.block 3 (.seq (.reg (
    ⟨(some 21), none, (.op (.mv (.t 19)))⟩ ::
⟨(some 22), none, (.op (.ixvn 13 2 (.t 18) (.t 19)))⟩ ::
⟨(some 6), none, (.op (.alloc [Value.bool false, Value.int .i64 0] 78))⟩ ::
⟨(some 5), none, (.op (.mv (.t 21)))⟩ ::
⟨none, none, (.op (.store 2 (.t 6) (.t 22)))⟩ :: [])) (.seq (.reg (
    ⟨(some 23), none, (.op (.faddr 0 (.t 6)))⟩ ::
⟨(some 24), none, (.op (.load1 (.t 23)))⟩ ::
⟨(some 25), none, (.op (.mv (.t 24)))⟩ ::
⟨(some 26), (some (25, true)), (.op (.mv (.t 0)))⟩ ::
⟨(some 27), (some (25, true)), (.op (.mv (.t 3)))⟩ ::
⟨(some 28), (some (25, true)), (.op (.mv (.t 5)))⟩ ::
⟨(some 29), (some (25, true)), (.op (.faddr 1 (.t 6)))⟩ ::
⟨(some 30), (some (25, true)), (.op (.load1 (.t 29)))⟩ ::
⟨(some 31), (some (25, true)), (.op (.build [Value.int .i64 0, Value.int .i64 0, Value.int .i64 0] [(0, 1, (.t 27)), (1, 1, (.t 28)), (2, 1, (.t 30))]))⟩ ::
⟨(some 32), (some (25, true)), (.call (.t 26) [(.t 31)])⟩ ::
⟨(some 33), (some (25, true)), (.op (.not (.t 32)))⟩ ::
⟨(some 34), none, (.op (.pick (.t 25) (.t 33) (.c (Value.bool false))))⟩ :: [])) (.cond (.t 34) .ret .skip)))) (.reg (
    ⟨(some 35), none, (.op (.int .add (.t 19) (.c (Value.int .i64 1))))⟩ ::
⟨(some 19), none, (.op (.mv (.t 35)))⟩ :: []))))))))))) (.reg (
    ⟨(some 36), none, (.op (.int .add (.t 11) (.c (Value.int .i64 1))))⟩ ::
⟨(some 11), none, (.op (.mv (.t 36)))⟩ :: []))))))))
def r65 : List ResultVar := []
set_option maxRecDepth 1000000 in
set_option maxHeartbeats 4000000 in
theorem fun65 : Fun Try.prog 65 37 2 a65 r65 :=
  ⟨rfl, Try.f65, _, rfl, rfl, rfl, by decide, rfl, rfl, rfl⟩
end AE.Try
