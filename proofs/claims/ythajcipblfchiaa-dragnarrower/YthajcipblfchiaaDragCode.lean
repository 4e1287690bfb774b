/- Made by gen3.py: the code of the functions, compiled for the evaluator; each is that of the program, by evaluation. -/
import Derived.Test.YthajcipblfchiaaProg
import Derived.Test.YthajcipblfchiaaAEtwo
set_option linter.unusedVariables false
set_option linter.unusedSimpArgs false
set_option linter.unusedSectionVars false
namespace AE.Try
open Go AE Go.Proofs
/-- tumblehome/tumblehomelaw04.DragLines -/
noncomputable def a3 : ACode := (.seq (.reg (
    ⟨(some 2), none, (.op (.box (.t 0) 24))⟩ ::
⟨(some 4), none, (.op (.mv (.c (Value.bool false))))⟩ :: [])) (.seq (.seq (.reg (
    ⟨(some 9), none, (.op (.loadn 2 (.t 2)))⟩ ::
⟨(some 10), none, (.call (.c (Value.func (.func 13) #[] #[])) [(.t 9)])⟩ :: [])) (.cond (.t 10) (.seq (.reg (
    ⟨(some 11), none, (.call (.c (Value.func (.func 14) #[] #[])) [])⟩ ::
⟨(some 4), none, (.op (.mv (.t 11)))⟩ :: [])) .ret) .skip)) (.seq (.reg (
    ⟨(some 13), none, (.op (.loadn 2 (.t 2)))⟩ ::
⟨(some 14), none, (.op (.mv (.t 1)))⟩ ::
⟨(some 15), none, (.call (.c (Value.func (.func 15) #[] #[])) [(.t 13), (.t 14)])⟩ ::
⟨(some 12), none, (.op (.mv (.t 15)))⟩ ::
⟨(some 16), none, (.op (.extract (.t 12) 0))⟩ ::
⟨(some 17), none, (.op (.extract (.t 12) 1))⟩ ::
⟨(some 5), none, (.op (.mv (.t 16)))⟩ ::
⟨(some 6), none, (.op (.mv (.t 17)))⟩ :: [])) (.seq (.reg (
    ⟨(some 19), none, (.op (.loadn 2 (.t 2)))⟩ ::
⟨(some 20), none, (.op (.mv (.t 1)))⟩ ::
⟨(some 21), none, (.call (.c (Value.func (.func 16) #[] #[])) [(.t 19), (.t 20)])⟩ ::
⟨(some 18), none, (.op (.mv (.t 21)))⟩ ::
⟨(some 22), none, (.op (.extract (.t 18) 0))⟩ ::
⟨(some 23), none, (.op (.extract (.t 18) 1))⟩ ::
⟨(some 7), none, (.op (.mv (.t 22)))⟩ ::
⟨(some 8), none, (.op (.mv (.t 23)))⟩ :: [])) (.seq (.dreg (
    ⟨(some 24), none, (.op (.loadn 2 (.t 2)))⟩ ::
⟨(some 25), none, (.call (.c (Value.func (.func 17) #[] #[])) [(.t 24)])⟩ ::
⟨(some 26), none, (.op (.loadn 2 (.t 2)))⟩ ::
⟨(some 27), none, (.call (.c (Value.func (.func 18) #[] #[])) [(.t 26)])⟩ ::
⟨(some 28), none, (.op (.int .eql (.t 25) (.t 27)))⟩ ::
⟨(some 29), none, (.op (.mv (.t 28)))⟩ ::
⟨(some 30), (some (29, true)), (.op (.mv (.t 5)))⟩ ::
⟨(some 31), (some (29, true)), (.op (.mv (.t 7)))⟩ ::
⟨(some 32), (some (29, true)), (.op (.int .eql (.t 30) (.t 31)))⟩ ::
⟨(some 33), none, (.op (.pick (.t 29) (.t 32) (.c (Value.bool false))))⟩ ::
⟨(some 34), none, (.op (.mv (.t 33)))⟩ ::
⟨(some 35), (some (34, true)), (.op (.mv (.t 6)))⟩ ::
⟨(some 36), (some (34, true)), (.op (.mv (.t 8)))⟩ ::
⟨(some 37), (some (34, true)), (.op (.int .eql (.t 35) (.t 36)))⟩ ::
⟨(some 38), none, (.op (.pick (.t 34) (.t 37) (.c (Value.bool false))))⟩ ::
⟨(some 39), none, (.op (.mv (.t 38)))⟩ ::
⟨(some 40), (some (39, true)), (.call (.c (Value.func (.func 14) #[] #[])) [])⟩ ::
⟨(some 41), none, (.op (.pick (.t 39) (.t 40) (.c (Value.bool false))))⟩ ::
⟨(some 4), none, (.op (.mv (.t 41)))⟩ :: []) []) .ret)))))
def r3 : List ResultVar := [.tmp 4]
set_option maxRecDepth 1000000 in
set_option maxHeartbeats 4000000 in
theorem fun3 : Fun Try.prog 3 42 2 a3 r3 :=
  ⟨rfl, Try.f3, _, rfl, rfl, rfl, by decide, rfl, rfl, rfl⟩
/-- tumblehome/tumblehomelaw04.DragShips -/
noncomputable def a4 : ACode := (.seq (.reg (
    ⟨(some 3), none, (.op (.box (.t 0) 35))⟩ ::
⟨(some 4), none, (.op (.box (.t 1) 24))⟩ ::
⟨(some 5), none, (.op (.box (.t 2) 37))⟩ ::
⟨(some 6), none, (.op (.mv (.c (Value.bool false))))⟩ :: [])) (.seq (.seq (.reg (
    ⟨(some 17), none, (.op (.loadn 2 (.t 4)))⟩ ::
⟨(some 18), none, (.call (.c (Value.func (.func 13) #[] #[])) [(.t 17)])⟩ :: [])) (.cond (.t 18) (.seq (.reg (
    ⟨(some 19), none, (.call (.c (Value.func (.func 14) #[] #[])) [])⟩ ::
⟨(some 6), none, (.op (.mv (.t 19)))⟩ :: [])) .ret) .skip)) (.seq (.reg (
    ⟨(some 21), none, (.op (.loadn 16 (.t 3)))⟩ ::
⟨(some 22), none, (.call (.c (Value.func (.func 19) #[] #[])) [(.t 21)])⟩ ::
⟨(some 20), none, (.op (.mv (.t 22)))⟩ ::
⟨(some 23), none, (.op (.extract (.t 20) 0))⟩ ::
⟨(some 24), none, (.op (.extract (.t 20) 1))⟩ ::
⟨(some 25), none, (.op (.extract (.t 20) 2))⟩ ::
⟨(some 7), none, (.op (.alloc [Value.int .i64 0, Value.int .i64 0] 33))⟩ ::
⟨(some 8), none, (.op (.alloc [Value.int .i64 0, Value.int .i64 0] 33))⟩ ::
⟨none, none, (.op (.store 2 (.t 7) (.t 23)))⟩ ::
⟨none, none, (.op (.store 2 (.t 8) (.t 24)))⟩ ::
⟨(some 9), none, (.op (.mv (.t 25)))⟩ :: [])) (.seq (.reg (
    ⟨(some 27), none, (.op (.loadn 16 (.t 3)))⟩ ::
⟨(some 28), none, (.call (.c (Value.func (.func 20) #[] #[])) [(.t 27)])⟩ ::
⟨(some 26), none, (.op (.mv (.t 28)))⟩ ::
⟨(some 29), none, (.op (.extract (.t 26) 0))⟩ ::
⟨(some 30), none, (.op (.extract (.t 26) 1))⟩ ::
⟨(some 31), none, (.op (.extract (.t 26) 2))⟩ ::
⟨(some 10), none, (.op (.alloc [Value.int .i64 0, Value.int .i64 0] 33))⟩ ::
⟨(some 11), none, (.op (.alloc [Value.int .i64 0, Value.int .i64 0] 33))⟩ ::
⟨none, none, (.op (.store 2 (.t 10) (.t 29)))⟩ ::
⟨none, none, (.op (.store 2 (.t 11) (.t 30)))⟩ ::
⟨(some 12), none, (.op (.mv (.t 31)))⟩ :: [])) (.seq (.reg (
    ⟨(some 33), none, (.op (.loadn 16 (.t 3)))⟩ ::
⟨(some 34), none, (.op (.loadn 2 (.t 4)))⟩ ::
⟨(some 35), none, (.op (.loadn 6 (.t 5)))⟩ ::
⟨(some 36), none, (.call (.c (Value.func (.func 21) #[] #[])) [(.t 33), (.t 34), (.t 35)])⟩ ::
⟨(some 32), none, (.op (.mv (.t 36)))⟩ ::
⟨(some 37), none, (.op (.extract (.t 32) 0))⟩ ::
⟨(some 38), none, (.op (.extract (.t 32) 1))⟩ ::
⟨(some 13), none, (.op (.mv (.t 37)))⟩ ::
⟨(some 14), none, (.op (.mv (.t 38)))⟩ :: [])) (.seq (.reg (
    ⟨(some 40), none, (.op (.loadn 16 (.t 3)))⟩ ::
⟨(some 41), none, (.op (.loadn 2 (.t 4)))⟩ ::
⟨(some 42), none, (.op (.loadn 6 (.t 5)))⟩ ::
⟨(some 43), none, (.call (.c (Value.func (.func 22) #[] #[])) [(.t 40), (.t 41), (.t 42)])⟩ ::
⟨(some 39), none, (.op (.mv (.t 43)))⟩ ::
⟨(some 44), none, (.op (.extract (.t 39) 0))⟩ ::
⟨(some 45), none, (.op (.extract (.t 39) 1))⟩ ::
⟨(some 15), none, (.op (.mv (.t 44)))⟩ ::
⟨(some 16), none, (.op (.mv (.t 45)))⟩ :: [])) (.seq (.dreg (
    ⟨(some 46), none, (.op (.loadn 16 (.t 3)))⟩ ::
⟨(some 47), none, (.call (.c (Value.func (.func 23) #[] #[])) [(.t 46)])⟩ ::
⟨(some 48), none, (.op (.loadn 16 (.t 3)))⟩ ::
⟨(some 49), none, (.call (.c (Value.func (.func 24) #[] #[])) [(.t 48)])⟩ ::
⟨(some 50), none, (.op (.int .eql (.t 47) (.t 49)))⟩ ::
⟨(some 51), none, (.op (.mv (.t 50)))⟩ ::
⟨(some 52), (some (51, true)), (.op (.loadn 2 (.t 7)))⟩ ::
⟨(some 53), (some (51, true)), (.op (.loadn 2 (.t 10)))⟩ ::
⟨(some 54), (some (51, true)), (.op (.pure (rawOp Try.f4 7 8)))⟩ ::
⟨(some 55), none, (.op (.pick (.t 51) (.t 54) (.c (Value.bool false))))⟩ ::
⟨(some 56), none, (.op (.mv (.t 55)))⟩ ::
⟨(some 57), (some (56, true)), (.op (.loadn 2 (.t 8)))⟩ ::
⟨(some 58), (some (56, true)), (.op (.loadn 2 (.t 11)))⟩ ::
⟨(some 59), (some (56, true)), (.op (.pure (rawOp Try.f4 7 13)))⟩ ::
⟨(some 60), none, (.op (.pick (.t 56) (.t 59) (.c (Value.bool false))))⟩ ::
⟨(some 61), none, (.op (.mv (.t 60)))⟩ ::
⟨(some 62), (some (61, true)), (.op (.mv (.t 9)))⟩ ::
⟨(some 63), (some (61, true)), (.op (.mv (.t 12)))⟩ ::
⟨(some 64), (some (61, true)), (.op (.int .eql (.t 62) (.t 63)))⟩ ::
⟨(some 65), none, (.op (.pick (.t 61) (.t 64) (.c (Value.bool false))))⟩ ::
⟨(some 66), none, (.op (.mv (.t 65)))⟩ ::
⟨(some 67), (some (66, true)), (.op (.mv (.t 13)))⟩ ::
⟨(some 68), (some (66, true)), (.op (.mv (.t 15)))⟩ ::
⟨(some 69), (some (66, true)), (.op (.int .eql (.t 67) (.t 68)))⟩ ::
⟨(some 70), none, (.op (.pick (.t 66) (.t 69) (.c (Value.bool false))))⟩ ::
⟨(some 71), none, (.op (.mv (.t 70)))⟩ ::
⟨(some 72), (some (71, true)), (.op (.mv (.t 14)))⟩ ::
⟨(some 73), (some (71, true)), (.op (.mv (.t 16)))⟩ ::
⟨(some 74), (some (71, true)), (.op (.int .eql (.t 72) (.t 73)))⟩ ::
⟨(some 75), none, (.op (.pick (.t 71) (.t 74) (.c (Value.bool false))))⟩ ::
⟨(some 76), none, (.op (.mv (.t 75)))⟩ ::
⟨(some 77), (some (76, true)), (.call (.c (Value.func (.func 14) #[] #[])) [])⟩ ::
⟨(some 78), none, (.op (.pick (.t 76) (.t 77) (.c (Value.bool false))))⟩ ::
⟨(some 6), none, (.op (.mv (.t 78)))⟩ :: []) []) .ret)))))))
def r4 : List ResultVar := [.tmp 6]
set_option maxRecDepth 1000000 in
set_option maxHeartbeats 4000000 in
theorem fun4 : Fun Try.prog 4 79 3 a4 r4 :=
  ⟨rfl, Try.f4, _, rfl, rfl, rfl, by decide, rfl, rfl, rfl⟩
/-- tumblehome/tumblehomelaw04.DragHolds -/
noncomputable def a5 : ACode := (.seq (.reg (
    ⟨(some 6), none, (.op (.mv (.c (Value.bool false))))⟩ :: [])) (.seq (.seq (.reg (
    ⟨(some 14), none, (.op (.mv (.t 0)))⟩ ::
⟨(some 15), none, (.op (.len (.t 14)))⟩ ::
⟨(some 16), none, (.op (.int .gtr (.t 15) (.c (Value.int .i64 6))))⟩ ::
⟨(some 17), none, (.op (.mv (.t 16)))⟩ ::
⟨(some 18), (some (17, true)), (.op (.mv (.t 0)))⟩ ::
⟨(some 19), (some (17, true)), (.op (.len (.t 18)))⟩ ::
⟨(some 20), (some (17, true)), (.op (.int .leq (.t 19) (.c (Value.int .i64 20))))⟩ ::
⟨(some 21), none, (.op (.pick (.t 17) (.t 20) (.c (Value.bool false))))⟩ ::
⟨(some 22), none, (.op (.mv (.t 21)))⟩ ::
⟨(some 23), (some (22, false)), (.op (.mv (.t 0)))⟩ ::
⟨(some 24), (some (22, false)), (.op (.len (.t 23)))⟩ ::
⟨(some 25), (some (22, false)), (.op (.int .gtr (.t 24) (.c (Value.int .i64 25))))⟩ ::
⟨(some 26), none, (.op (.pick (.t 22) (.c (Value.bool true)) (.t 25)))⟩ ::
⟨(some 27), none, (.op (.mv (.t 26)))⟩ ::
⟨(some 28), (some (27, false)), (.op (.mv (.t 1)))⟩ ::
⟨(some 29), (some (27, false)), (.call (.c (Value.func (.func 25) #[] #[])) [(.t 28)])⟩ ::
⟨(some 30), none, (.op (.pick (.t 27) (.c (Value.bool true)) (.t 29)))⟩ ::
⟨(some 31), none, (.op (.mv (.t 30)))⟩ ::
⟨(some 32), (some (31, false)), (.op (.mv (.t 2)))⟩ ::
⟨(some 33), (some (31, false)), (.op (.len (.t 32)))⟩ ::
⟨(some 34), (some (31, false)), (.op (.int .gtr (.t 33) (.c (Value.int .i64 30))))⟩ ::
⟨(some 35), none, (.op (.pick (.t 31) (.c (Value.bool true)) (.t 34)))⟩ :: [])) (.cond (.t 35) (.seq (.reg (
    ⟨(some 36), none, (.call (.c (Value.func (.func 14) #[] #[])) [])⟩ ::
⟨(some 6), none, (.op (.mv (.t 36)))⟩ :: [])) .ret) .skip)) (.seq (.seq (.reg (
    ⟨(some 7), none, (.op (.mv (.c (Value.int .i64 0))))⟩ :: [])) (.block 0 (.loop (.seq (.seq (.reg (
    ⟨(some 37), none, (.op (.mv (.t 7)))⟩ ::
⟨(some 38), none, (.op (.mv (.t 0)))⟩ ::
⟨(some 39), none, (.op (.len (.t 38)))⟩ ::
⟨(some 40), none, (.op (.int .lss (.t 37) (.t 39)))⟩ :: [])) (.cond (.t 40) .skip (.exit 0))) (.seq (.block 1 (.seq (.reg (
    ⟨(some 43), none, (.op (.mv (.t 0)))⟩ ::
⟨(some 44), none, (.op (.mv (.t 7)))⟩ ::
⟨(some 45), none, (.op (.ixsl 16 (.t 43) (.t 44)))⟩ ::
⟨(some 46), none, (.op (.loadn 16 (.t 45)))⟩ ::
⟨(some 47), none, (.call (.c (Value.func (.func 26) #[] #[])) [(.t 46)])⟩ :: [])) (.cond (.t 47) (.seq (.reg (
    ⟨(some 48), none, (.call (.c (Value.func (.func 14) #[] #[])) [])⟩ ::
⟨(some 6), none, (.op (.mv (.t 48)))⟩ :: [])) .ret) .skip))) (.reg (
    ⟨(some 41), none, (.op (.mv (.t 7)))⟩ ::
⟨(some 42), none, (.op (.int .add (.t 41) (.c (Value.int .i64 1))))⟩ ::
⟨(some 7), none, (.op (.mv (.t 42)))⟩ :: []))))))) (.seq (.reg (
    ⟨(some 50), none, (.op (.mv (.t 0)))⟩ ::
⟨(some 51), none, (.op (.mv (.t 1)))⟩ ::
⟨(some 52), none, (.op (.mv (.t 2)))⟩ ::
⟨(some 53), none, (.call (.c (Value.func (.func 27) #[] #[])) [(.t 50), (.t 51), (.t 52)])⟩ ::
⟨(some 49), none, (.op (.mv (.t 53)))⟩ ::
⟨(some 54), none, (.op (.extract (.t 49) 0))⟩ ::
⟨(some 55), none, (.op (.extract (.t 49) 1))⟩ ::
⟨(some 56), none, (.op (.extract (.t 49) 2))⟩ ::
⟨(some 8), none, (.op (.mv (.t 54)))⟩ ::
⟨(some 9), none, (.op (.mv (.t 55)))⟩ ::
⟨(some 10), none, (.op (.mv (.t 56)))⟩ :: [])) (.seq (.reg (
    ⟨(some 58), none, (.op (.mv (.t 0)))⟩ ::
⟨(some 59), none, (.op (.mv (.t 1)))⟩ ::
⟨(some 60), none, (.op (.mv (.t 2)))⟩ ::
⟨(some 61), none, (.call (.c (Value.func (.func 28) #[] #[])) [(.t 58), (.t 59), (.t 60)])⟩ ::
⟨(some 57), none, (.op (.mv (.t 61)))⟩ ::
⟨(some 62), none, (.op (.extract (.t 57) 0))⟩ ::
⟨(some 63), none, (.op (.extract (.t 57) 1))⟩ ::
⟨(some 64), none, (.op (.extract (.t 57) 2))⟩ ::
⟨(some 11), none, (.op (.mv (.t 62)))⟩ ::
⟨(some 12), none, (.op (.mv (.t 63)))⟩ ::
⟨(some 13), none, (.op (.mv (.t 64)))⟩ :: [])) (.seq (.reg (
    ⟨(some 65), none, (.op (.mv (.t 8)))⟩ ::
⟨(some 66), none, (.op (.mv (.t 11)))⟩ ::
⟨(some 67), none, (.op (.int .eql (.t 65) (.t 66)))⟩ ::
⟨(some 68), none, (.op (.mv (.t 67)))⟩ ::
⟨(some 69), (some (68, true)), (.op (.mv (.t 9)))⟩ ::
⟨(some 70), (some (68, true)), (.op (.mv (.t 12)))⟩ ::
⟨(some 71), (some (68, true)), (.op (.int .eql (.t 69) (.t 70)))⟩ ::
⟨(some 72), none, (.op (.pick (.t 68) (.t 71) (.c (Value.bool false))))⟩ ::
⟨(some 73), none, (.op (.mv (.t 72)))⟩ ::
⟨(some 74), (some (73, true)), (.op (.mv (.t 10)))⟩ ::
⟨(some 75), (some (73, true)), (.op (.mv (.t 13)))⟩ ::
⟨(some 76), (some (73, true)), (.op (.int .eql (.t 74) (.t 75)))⟩ ::
⟨(some 77), none, (.op (.pick (.t 73) (.t 76) (.c (Value.bool false))))⟩ ::
⟨(some 78), none, (.op (.mv (.t 77)))⟩ ::
⟨(some 79), (some (78, true)), (.call (.c (Value.func (.func 14) #[] #[])) [])⟩ ::
⟨(some 80), none, (.op (.pick (.t 78) (.t 79) (.c (Value.bool false))))⟩ ::
⟨(some 6), none, (.op (.mv (.t 80)))⟩ :: [])) .ret))))))
def r5 : List ResultVar := [.tmp 6]
set_option maxRecDepth 1000000 in
set_option maxHeartbeats 4000000 in
theorem fun5 : Fun Try.prog 5 81 3 a5 r5 :=
  ⟨rfl, Try.f5, _, rfl, rfl, rfl, by decide, rfl, rfl, rfl⟩
/-- tumblehome/tumblehomelaw04.DragBoxed -/
noncomputable def a6 : ACode := (.seq (.reg (
    ⟨(some 5), none, (.op (.box (.t 0) 35))⟩ ::
⟨(some 8), none, (.op (.box (.t 3) 51))⟩ ::
⟨(some 10), none, (.op (.mv (.c (Value.bool false))))⟩ :: [])) (.seq (.seq (.reg (
    ⟨(some 19), none, (.op (.loadn 16 (.t 5)))⟩ ::
⟨(some 20), none, (.op (.mv (.t 1)))⟩ ::
⟨(some 21), none, (.call (.c (Value.func (.func 29) #[] #[])) [(.t 19), (.t 20)])⟩ ::
⟨(some 22), none, (.op (.not (.t 21)))⟩ :: [])) (.cond (.t 22) (.seq (.reg (
    ⟨(some 23), none, (.call (.c (Value.func (.func 14) #[] #[])) [])⟩ ::
⟨(some 10), none, (.op (.mv (.t 23)))⟩ :: [])) .ret) .skip)) (.seq (.reg (
    ⟨(some 24), none, (.op (.mv (.t 1)))⟩ ::
⟨(some 25), none, (.op (.mv (.t 2)))⟩ ::
⟨(some 26), none, (.op (.conv .i64 (.t 25)))⟩ ::
⟨(some 27), none, (.op (.mv (.t 1)))⟩ ::
⟨(some 28), none, (.op (.len (.t 27)))⟩ ::
⟨(some 29), none, (.op (.idiv false (.t 26) (.t 28)))⟩ ::
⟨(some 30), none, (.op (.ixsl 2 (.t 24) (.t 29)))⟩ ::
⟨(some 31), none, (.op (.loadn 2 (.t 30)))⟩ ::
⟨(some 11), none, (.op (.alloc [Value.slice none 0 0, Value.slice none 0 0] 24))⟩ ::
⟨none, none, (.op (.store 2 (.t 11) (.t 31)))⟩ :: [])) (.seq (.reg (
    ⟨(some 33), none, (.op (.loadn 16 (.t 5)))⟩ ::
⟨(some 34), none, (.op (.mv (.t 1)))⟩ ::
⟨(some 35), none, (.call (.c (Value.func (.func 30) #[] #[])) [(.t 33), (.t 34)])⟩ ::
⟨(some 32), none, (.op (.mv (.t 35)))⟩ ::
⟨(some 36), none, (.op (.extract (.t 32) 0))⟩ ::
⟨(some 37), none, (.op (.extract (.t 32) 1))⟩ ::
⟨(some 12), none, (.op (.alloc [Value.int .i64 0, Value.int .i64 0] 33))⟩ ::
⟨none, none, (.op (.store 2 (.t 12) (.t 36)))⟩ ::
⟨(some 13), none, (.op (.mv (.t 37)))⟩ :: [])) (.seq (.dreg (
    ⟨(some 39), none, (.op (.loadn 16 (.t 5)))⟩ ::
⟨(some 40), none, (.op (.loadn 2 (.t 11)))⟩ ::
⟨(some 41), none, (.op (.loadn 16 (.t 5)))⟩ ::
⟨(some 42), none, (.op (.loadn 6 (.t 8)))⟩ ::
⟨(some 43), none, (.call (.c (Value.func (.func 31) #[] #[])) [(.t 41), (.t 42)])⟩ ::
⟨(some 44), none, (.call (.c (Value.func (.func 21) #[] #[])) [(.t 39), (.t 40), (.t 43)])⟩ ::
⟨(some 38), none, (.op (.mv (.t 44)))⟩ ::
⟨(some 45), none, (.op (.extract (.t 38) 0))⟩ ::
⟨(some 46), none, (.op (.extract (.t 38) 1))⟩ ::
⟨(some 14), none, (.op (.mv (.t 45)))⟩ ::
⟨(some 15), none, (.op (.mv (.t 46)))⟩ :: []) []) (.seq (.reg (
    ⟨(some 48), none, (.op (.loadn 16 (.t 5)))⟩ ::
⟨(some 49), none, (.op (.bslice [Value.int .i64 0, Value.int .i64 0, Value.int .i64 0, Value.int .i64 0, Value.int .i64 0, Value.int .i64 0, Value.int .i64 0, Value.int .i64 0, Value.int .i64 0, Value.int .i64 0, Value.int .i64 0, Value.int .i64 0, Value.int .i64 0, Value.int .i64 0, Value.int .i64 0, Value.int .i64 0] [(0, 16, (.t 48))] 1 35))⟩ ::
⟨(some 50), none, (.op (.mv (.t 1)))⟩ ::
⟨(some 51), none, (.op (.mv (.t 4)))⟩ ::
⟨(some 52), none, (.op (.bslice [Value.int .i64 0] [(0, 1, (.t 51))] 1 2))⟩ ::
⟨(some 53), none, (.call (.c (Value.func (.func 27) #[] #[])) [(.t 49), (.t 50), (.t 52)])⟩ ::
⟨(some 47), none, (.op (.mv (.t 53)))⟩ ::
⟨(some 54), none, (.op (.extract (.t 47) 0))⟩ ::
⟨(some 55), none, (.op (.extract (.t 47) 1))⟩ ::
⟨(some 56), none, (.op (.extract (.t 47) 2))⟩ ::
⟨(some 16), none, (.op (.mv (.t 54)))⟩ ::
⟨(some 17), none, (.op (.mv (.t 55)))⟩ ::
⟨(some 18), none, (.op (.mv (.t 56)))⟩ :: [])) (.seq (.seq (.reg (
    ⟨(some 57), none, (.op (.mv (.t 13)))⟩ ::
⟨(some 58), none, (.op (.int .neq (.t 57) (.c (Value.int .i64 0))))⟩ ::
⟨(some 59), none, (.op (.mv (.t 58)))⟩ ::
⟨(some 60), (some (59, false)), (.op (.mv (.t 15)))⟩ ::
⟨(some 61), (some (59, false)), (.op (.int .neq (.t 60) (.c (Value.int .i64 0))))⟩ ::
⟨(some 62), none, (.op (.pick (.t 59) (.c (Value.bool true)) (.t 61)))⟩ ::
⟨(some 63), none, (.op (.mv (.t 62)))⟩ ::
⟨(some 64), (some (63, false)), (.op (.mv (.t 18)))⟩ ::
⟨(some 65), (some (63, false)), (.op (.int .neq (.t 64) (.c (Value.int .i64 0))))⟩ ::
⟨(some 66), none, (.op (.pick (.t 63) (.c (Value.bool true)) (.t 65)))⟩ ::
⟨(some 67), none, (.op (.mv (.t 66)))⟩ ::
⟨(some 68), (some (67, false)), (.op (.mv (.t 14)))⟩ ::
⟨(some 69), (some (67, false)), (.op (.faddr 0 (.t 12)))⟩ ::
⟨(some 70), (some (67, false)), (.op (.load1 (.t 69)))⟩ ::
⟨(some 71), (some (67, false)), (.op (.int .lss (.t 68) (.t 70)))⟩ ::
⟨(some 72), none, (.op (.pick (.t 67) (.c (Value.bool true)) (.t 71)))⟩ ::
⟨(some 73), none, (.op (.mv (.t 72)))⟩ ::
⟨(some 74), (some (73, false)), (.op (.mv (.t 14)))⟩ ::
⟨(some 75), (some (73, false)), (.op (.faddr 1 (.t 12)))⟩ ::
⟨(some 76), (some (73, false)), (.op (.load1 (.t 75)))⟩ ::
⟨(some 77), (some (73, false)), (.op (.int .gtr (.t 74) (.t 76)))⟩ ::
⟨(some 78), none, (.op (.pick (.t 73) (.c (Value.bool true)) (.t 77)))⟩ :: [])) (.cond (.t 78) (.seq (.reg (
    ⟨(some 10), none, (.op (.mv (.c (Value.bool false))))⟩ :: [])) .ret) .skip)) (.seq (.reg (
    ⟨(some 79), none, (.op (.mv (.t 16)))⟩ ::
⟨(some 80), none, (.op (.int .eql (.t 79) (.c (Value.int .i64 1))))⟩ ::
⟨(some 81), none, (.op (.faddr 1 (.t 12)))⟩ ::
⟨(some 82), none, (.op (.load1 (.t 81)))⟩ ::
⟨(some 83), none, (.op (.mv (.t 4)))⟩ ::
⟨(some 84), none, (.op (.int .leq (.t 82) (.t 83)))⟩ ::
⟨(some 85), none, (.op (.pure (rawOp Try.f6 9 6)))⟩ ::
⟨(some 86), none, (.op (.mv (.t 85)))⟩ ::
⟨(some 87), (some (86, true)), (.op (.mv (.t 17)))⟩ ::
⟨(some 88), (some (86, true)), (.op (.int .eql (.t 87) (.c (Value.int .i64 1))))⟩ ::
⟨(some 89), (some (86, true)), (.op (.faddr 0 (.t 12)))⟩ ::
⟨(some 90), (some (86, true)), (.op (.load1 (.t 89)))⟩ ::
⟨(some 91), (some (86, true)), (.op (.mv (.t 4)))⟩ ::
⟨(some 92), (some (86, true)), (.op (.int .leq (.t 90) (.t 91)))⟩ ::
⟨(some 93), (some (86, true)), (.op (.pure (rawOp Try.f6 9 14)))⟩ ::
⟨(some 94), none, (.op (.pick (.t 86) (.t 93) (.c (Value.bool false))))⟩ ::
⟨(some 95), none, (.op (.mv (.t 94)))⟩ ::
⟨(some 96), (some (95, true)), (.op (.mv (.t 16)))⟩ ::
⟨(some 97), (some (95, true)), (.op (.int .eql (.t 96) (.c (Value.int .i64 0))))⟩ ::
⟨(some 98), (some (95, true)), (.op (.mv (.t 97)))⟩ ::
⟨(some 99), (some (98, false)), (.op (.mv (.t 14)))⟩ ::
⟨(some 100), (some (98, false)), (.op (.mv (.t 4)))⟩ ::
⟨(some 101), (some (98, false)), (.op (.int .leq (.t 99) (.t 100)))⟩ ::
⟨(some 102), (some (95, true)), (.op (.pick (.t 98) (.c (Value.bool true)) (.t 101)))⟩ ::
⟨(some 103), none, (.op (.pick (.t 95) (.t 102) (.c (Value.bool false))))⟩ ::
⟨(some 104), none, (.op (.mv (.t 103)))⟩ ::
⟨(some 105), (some (104, true)), (.op (.mv (.t 17)))⟩ ::
⟨(some 106), (some (104, true)), (.op (.int .eql (.t 105) (.c (Value.int .i64 1))))⟩ ::
⟨(some 107), (some (104, true)), (.op (.mv (.t 106)))⟩ ::
⟨(some 108), (some (107, false)), (.op (.mv (.t 14)))⟩ ::
⟨(some 109), (some (107, false)), (.op (.mv (.t 4)))⟩ ::
⟨(some 110), (some (107, false)), (.op (.int .gtr (.t 108) (.t 109)))⟩ ::
⟨(some 111), (some (104, true)), (.op (.pick (.t 107) (.c (Value.bool true)) (.t 110)))⟩ ::
⟨(some 112), none, (.op (.pick (.t 104) (.t 111) (.c (Value.bool false))))⟩ ::
⟨(some 113), none, (.op (.mv (.t 112)))⟩ ::
⟨(some 114), (some (113, true)), (.op (.mv (.t 16)))⟩ ::
⟨(some 115), (some (113, true)), (.op (.int .geq (.t 114) (.c (Value.int .i64 0))))⟩ ::
⟨(some 116), none, (.op (.pick (.t 113) (.t 115) (.c (Value.bool false))))⟩ ::
⟨(some 117), none, (.op (.mv (.t 116)))⟩ ::
⟨(some 118), (some (117, true)), (.op (.mv (.t 16)))⟩ ::
⟨(some 119), (some (117, true)), (.op (.mv (.t 17)))⟩ ::
⟨(some 120), (some (117, true)), (.op (.int .leq (.t 118) (.t 119)))⟩ ::
⟨(some 121), none, (.op (.pick (.t 117) (.t 120) (.c (Value.bool false))))⟩ ::
⟨(some 122), none, (.op (.mv (.t 121)))⟩ ::
⟨(some 123), (some (122, true)), (.op (.mv (.t 17)))⟩ ::
⟨(some 124), (some (122, true)), (.op (.int .leq (.t 123) (.c (Value.int .i64 1))))⟩ ::
⟨(some 125), none, (.op (.pick (.t 122) (.t 124) (.c (Value.bool false))))⟩ ::
⟨(some 126), none, (.op (.mv (.t 125)))⟩ ::
⟨(some 127), (some (126, true)), (.call (.c (Value.func (.func 14) #[] #[])) [])⟩ ::
⟨(some 128), none, (.op (.pick (.t 126) (.t 127) (.c (Value.bool false))))⟩ ::
⟨(some 10), none, (.op (.mv (.t 128)))⟩ :: [])) .ret))))))))
def r6 : List ResultVar := [.tmp 10]
set_option maxRecDepth 1000000 in
set_option maxHeartbeats 4000000 in
theorem fun6 : Fun Try.prog 6 129 5 a6 r6 :=
  ⟨rfl, Try.f6, _, rfl, rfl, rfl, by decide, rfl, rfl, rfl⟩
/-- tumblehome/tumblehomelaw04.DragNarrower -/
noncomputable def a7 : ACode := (.seq (.reg (
    ⟨(some 4), none, (.op (.box (.t 0) 35))⟩ ::
⟨(some 6), none, (.op (.box (.t 2) 51))⟩ ::
⟨(some 7), none, (.op (.box (.t 3) 51))⟩ ::
⟨(some 8), none, (.op (.mv (.c (Value.bool false))))⟩ :: [])) (.seq (.seq (.reg (
    ⟨(some 20), none, (.op (.loadn 16 (.t 4)))⟩ ::
⟨(some 21), none, (.op (.mv (.t 1)))⟩ ::
⟨(some 22), none, (.call (.c (Value.func (.func 29) #[] #[])) [(.t 20), (.t 21)])⟩ ::
⟨(some 23), none, (.op (.not (.t 22)))⟩ :: [])) (.cond (.t 23) (.seq (.reg (
    ⟨(some 24), none, (.call (.c (Value.func (.func 14) #[] #[])) [])⟩ ::
⟨(some 8), none, (.op (.mv (.t 24)))⟩ :: [])) .ret) .skip)) (.seq (.dreg (
    ⟨(some 25), none, (.op (.loadn 16 (.t 4)))⟩ ::
⟨(some 26), none, (.op (.loadn 6 (.t 6)))⟩ ::
⟨(some 27), none, (.call (.c (Value.func (.func 31) #[] #[])) [(.t 25), (.t 26)])⟩ ::
⟨(some 28), none, (.op (.loadn 16 (.t 4)))⟩ ::
⟨(some 29), none, (.op (.loadn 6 (.t 7)))⟩ ::
⟨(some 30), none, (.call (.c (Value.func (.func 31) #[] #[])) [(.t 28), (.t 29)])⟩ ::
⟨(some 9), none, (.op (.alloc [Value.int .i64 0, Value.int .i64 0, Value.int .i64 0, Value.int .i64 0, Value.int .i64 0, Value.int .i64 0] 37))⟩ ::
⟨(some 10), none, (.op (.alloc [Value.int .i64 0, Value.int .i64 0, Value.int .i64 0, Value.int .i64 0, Value.int .i64 0, Value.int .i64 0] 37))⟩ ::
⟨none, none, (.op (.store 6 (.t 9) (.t 27)))⟩ ::
⟨none, none, (.op (.store 6 (.t 10) (.t 30)))⟩ :: []) []) (.seq (.reg (
    ⟨(some 31), none, (.op (.loadn 16 (.t 4)))⟩ ::
⟨(some 11), none, (.op (.alloc [Value.int .i64 0, Value.int .i64 0, Value.int .i64 0, Value.int .i64 0, Value.int .i64 0, Value.int .i64 0, Value.int .i64 0, Value.int .i64 0, Value.int .i64 0, Value.int .i64 0, Value.int .i64 0, Value.int .i64 0, Value.int .i64 0, Value.int .i64 0, Value.int .i64 0, Value.int .i64 0] 35))⟩ ::
⟨none, none, (.op (.store 16 (.t 11) (.t 31)))⟩ :: [])) (.seq (.reg (
    ⟨(some 32), none, (.op (.faddr 0 (.t 9)))⟩ ::
⟨(some 33), none, (.op (.load1 (.t 32)))⟩ ::
⟨(some 34), none, (.op (.faddr 0 (.t 10)))⟩ ::
⟨(some 35), none, (.op (.load1 (.t 34)))⟩ ::
⟨(some 36), none, (.op (.mnmx false (.t 33) (.t 35)))⟩ ::
⟨(some 37), none, (.op (.faddr 0 (.t 9)))⟩ ::
⟨(some 38), none, (.op (.load1 (.t 37)))⟩ ::
⟨(some 39), none, (.op (.faddr 0 (.t 10)))⟩ ::
⟨(some 40), none, (.op (.load1 (.t 39)))⟩ ::
⟨(some 41), none, (.op (.mnmx true (.t 38) (.t 40)))⟩ ::
⟨(some 42), none, (.op (.build [Value.int .i64 0, Value.int .i64 0] [(0, 1, (.t 36)), (1, 1, (.t 41))]))⟩ ::
⟨(some 43), none, (.op (.faddr 4 (.t 11)))⟩ ::
⟨none, none, (.op (.store 2 (.t 43) (.t 42)))⟩ :: [])) (.seq (.reg (
    ⟨(some 44), none, (.op (.faddr 1 (.t 9)))⟩ ::
⟨(some 45), none, (.op (.load1 (.t 44)))⟩ ::
⟨(some 46), none, (.op (.faddr 1 (.t 10)))⟩ ::
⟨(some 47), none, (.op (.load1 (.t 46)))⟩ ::
⟨(some 48), none, (.op (.mnmx false (.t 45) (.t 47)))⟩ ::
⟨(some 49), none, (.op (.faddr 1 (.t 9)))⟩ ::
⟨(some 50), none, (.op (.load1 (.t 49)))⟩ ::
⟨(some 51), none, (.op (.faddr 1 (.t 10)))⟩ ::
⟨(some 52), none, (.op (.load1 (.t 51)))⟩ ::
⟨(some 53), none, (.op (.mnmx true (.t 50) (.t 52)))⟩ ::
⟨(some 54), none, (.op (.build [Value.int .i64 0, Value.int .i64 0] [(0, 1, (.t 48)), (1, 1, (.t 53))]))⟩ ::
⟨(some 55), none, (.op (.faddr 6 (.t 11)))⟩ ::
⟨none, none, (.op (.store 2 (.t 55) (.t 54)))⟩ :: [])) (.seq (.reg (
    ⟨(some 56), none, (.op (.faddr 2 (.t 9)))⟩ ::
⟨(some 57), none, (.op (.load1 (.t 56)))⟩ ::
⟨(some 58), none, (.op (.faddr 2 (.t 10)))⟩ ::
⟨(some 59), none, (.op (.load1 (.t 58)))⟩ ::
⟨(some 60), none, (.op (.mnmx false (.t 57) (.t 59)))⟩ ::
⟨(some 61), none, (.op (.faddr 2 (.t 9)))⟩ ::
⟨(some 62), none, (.op (.load1 (.t 61)))⟩ ::
⟨(some 63), none, (.op (.faddr 2 (.t 10)))⟩ ::
⟨(some 64), none, (.op (.load1 (.t 63)))⟩ ::
⟨(some 65), none, (.op (.mnmx true (.t 62) (.t 64)))⟩ ::
⟨(some 66), none, (.op (.build [Value.int .i64 0, Value.int .i64 0] [(0, 1, (.t 60)), (1, 1, (.t 65))]))⟩ ::
⟨(some 67), none, (.op (.faddr 8 (.t 11)))⟩ ::
⟨none, none, (.op (.store 2 (.t 67) (.t 66)))⟩ :: [])) (.seq (.reg (
    ⟨(some 68), none, (.op (.faddr 3 (.t 9)))⟩ ::
⟨(some 69), none, (.op (.load1 (.t 68)))⟩ ::
⟨(some 70), none, (.op (.faddr 3 (.t 10)))⟩ ::
⟨(some 71), none, (.op (.load1 (.t 70)))⟩ ::
⟨(some 72), none, (.op (.mnmx false (.t 69) (.t 71)))⟩ ::
⟨(some 73), none, (.op (.faddr 3 (.t 9)))⟩ ::
⟨(some 74), none, (.op (.load1 (.t 73)))⟩ ::
⟨(some 75), none, (.op (.faddr 3 (.t 10)))⟩ ::
⟨(some 76), none, (.op (.load1 (.t 75)))⟩ ::
⟨(some 77), none, (.op (.mnmx true (.t 74) (.t 76)))⟩ ::
⟨(some 78), none, (.op (.build [Value.int .i64 0, Value.int .i64 0] [(0, 1, (.t 72)), (1, 1, (.t 77))]))⟩ ::
⟨(some 79), none, (.op (.faddr 10 (.t 11)))⟩ ::
⟨none, none, (.op (.store 2 (.t 79) (.t 78)))⟩ :: [])) (.seq (.reg (
    ⟨(some 80), none, (.op (.faddr 4 (.t 9)))⟩ ::
⟨(some 81), none, (.op (.load1 (.t 80)))⟩ ::
⟨(some 82), none, (.op (.faddr 4 (.t 10)))⟩ ::
⟨(some 83), none, (.op (.load1 (.t 82)))⟩ ::
⟨(some 84), none, (.op (.mnmx false (.t 81) (.t 83)))⟩ ::
⟨(some 85), none, (.op (.faddr 4 (.t 9)))⟩ ::
⟨(some 86), none, (.op (.load1 (.t 85)))⟩ ::
⟨(some 87), none, (.op (.faddr 4 (.t 10)))⟩ ::
⟨(some 88), none, (.op (.load1 (.t 87)))⟩ ::
⟨(some 89), none, (.op (.mnmx true (.t 86) (.t 88)))⟩ ::
⟨(some 90), none, (.op (.build [Value.int .i64 0, Value.int .i64 0] [(0, 1, (.t 84)), (1, 1, (.t 89))]))⟩ ::
⟨(some 91), none, (.op (.faddr 12 (.t 11)))⟩ ::
⟨none, none, (.op (.store 2 (.t 91) (.t 90)))⟩ :: [])) (.seq (.reg (
    ⟨(some 92), none, (.op (.faddr 5 (.t 9)))⟩ ::
⟨(some 93), none, (.op (.load1 (.t 92)))⟩ ::
⟨(some 94), none, (.op (.faddr 5 (.t 10)))⟩ ::
⟨(some 95), none, (.op (.load1 (.t 94)))⟩ ::
⟨(some 96), none, (.op (.mnmx false (.t 93) (.t 95)))⟩ ::
⟨(some 97), none, (.op (.faddr 5 (.t 9)))⟩ ::
⟨(some 98), none, (.op (.load1 (.t 97)))⟩ ::
⟨(some 99), none, (.op (.faddr 5 (.t 10)))⟩ ::
⟨(some 100), none, (.op (.load1 (.t 99)))⟩ ::
⟨(some 101), none, (.op (.mnmx true (.t 98) (.t 100)))⟩ ::
⟨(some 102), none, (.op (.build [Value.int .i64 0, Value.int .i64 0] [(0, 1, (.t 96)), (1, 1, (.t 101))]))⟩ ::
⟨(some 103), none, (.op (.faddr 14 (.t 11)))⟩ ::
⟨none, none, (.op (.store 2 (.t 103) (.t 102)))⟩ :: [])) (.seq (.reg (
    ⟨(some 105), none, (.op (.loadn 16 (.t 4)))⟩ ::
⟨(some 106), none, (.op (.mv (.t 1)))⟩ ::
⟨(some 107), none, (.call (.c (Value.func (.func 30) #[] #[])) [(.t 105), (.t 106)])⟩ ::
⟨(some 104), none, (.op (.mv (.t 107)))⟩ ::
⟨(some 108), none, (.op (.extract (.t 104) 0))⟩ ::
⟨(some 109), none, (.op (.extract (.t 104) 1))⟩ ::
⟨(some 12), none, (.op (.alloc [Value.int .i64 0, Value.int .i64 0] 33))⟩ ::
⟨none, none, (.op (.store 2 (.t 12) (.t 108)))⟩ ::
⟨(some 13), none, (.op (.mv (.t 109)))⟩ :: [])) (.seq (.reg (
    ⟨(some 111), none, (.op (.loadn 16 (.t 11)))⟩ ::
⟨(some 112), none, (.op (.mv (.t 1)))⟩ ::
⟨(some 113), none, (.call (.c (Value.func (.func 30) #[] #[])) [(.t 111), (.t 112)])⟩ ::
⟨(some 110), none, (.op (.mv (.t 113)))⟩ ::
⟨(some 114), none, (.op (.extract (.t 110) 0))⟩ ::
⟨(some 115), none, (.op (.extract (.t 110) 1))⟩ ::
⟨(some 14), none, (.op (.alloc [Value.int .i64 0, Value.int .i64 0] 33))⟩ ::
⟨none, none, (.op (.store 2 (.t 14) (.t 114)))⟩ ::
⟨(some 15), none, (.op (.mv (.t 115)))⟩ :: [])) (.seq (.seq (.reg (
    ⟨(some 116), none, (.op (.mv (.t 13)))⟩ ::
⟨(some 117), none, (.op (.int .neq (.t 116) (.c (Value.int .i64 0))))⟩ ::
⟨(some 118), none, (.op (.mv (.t 117)))⟩ ::
⟨(some 119), (some (118, false)), (.op (.mv (.t 15)))⟩ ::
⟨(some 120), (some (118, false)), (.op (.int .neq (.t 119) (.c (Value.int .i64 0))))⟩ ::
⟨(some 121), none, (.op (.pick (.t 118) (.c (Value.bool true)) (.t 120)))⟩ ::
⟨(some 122), none, (.op (.mv (.t 121)))⟩ ::
⟨(some 123), (some (122, false)), (.op (.faddr 0 (.t 14)))⟩ ::
⟨(some 124), (some (122, false)), (.op (.load1 (.t 123)))⟩ ::
⟨(some 125), (some (122, false)), (.op (.faddr 0 (.t 12)))⟩ ::
⟨(some 126), (some (122, false)), (.op (.load1 (.t 125)))⟩ ::
⟨(some 127), (some (122, false)), (.op (.int .lss (.t 124) (.t 126)))⟩ ::
⟨(some 128), none, (.op (.pick (.t 122) (.c (Value.bool true)) (.t 127)))⟩ ::
⟨(some 129), none, (.op (.mv (.t 128)))⟩ ::
⟨(some 130), (some (129, false)), (.op (.faddr 1 (.t 14)))⟩ ::
⟨(some 131), (some (129, false)), (.op (.load1 (.t 130)))⟩ ::
⟨(some 132), (some (129, false)), (.op (.faddr 1 (.t 12)))⟩ ::
⟨(some 133), (some (129, false)), (.op (.load1 (.t 132)))⟩ ::
⟨(some 134), (some (129, false)), (.op (.int .gtr (.t 131) (.t 133)))⟩ ::
⟨(some 135), none, (.op (.pick (.t 129) (.c (Value.bool true)) (.t 134)))⟩ ::
⟨(some 136), none, (.op (.mv (.t 135)))⟩ ::
⟨(some 137), (some (136, false)), (.op (.faddr 0 (.t 14)))⟩ ::
⟨(some 138), (some (136, false)), (.op (.load1 (.t 137)))⟩ ::
⟨(some 139), (some (136, false)), (.op (.faddr 1 (.t 14)))⟩ ::
⟨(some 140), (some (136, false)), (.op (.load1 (.t 139)))⟩ ::
⟨(some 141), (some (136, false)), (.op (.int .gtr (.t 138) (.t 140)))⟩ ::
⟨(some 142), none, (.op (.pick (.t 136) (.c (Value.bool true)) (.t 141)))⟩ :: [])) (.cond (.t 142) (.seq (.reg (
    ⟨(some 8), none, (.op (.mv (.c (Value.bool false))))⟩ :: [])) .ret) .skip)) (.seq (.reg (
    ⟨(some 143), none, (.op (.faddr 1 (.t 12)))⟩ ::
⟨(some 144), none, (.op (.load1 (.t 143)))⟩ ::
⟨(some 145), none, (.op (.faddr 0 (.t 12)))⟩ ::
⟨(some 146), none, (.op (.load1 (.t 145)))⟩ ::
⟨(some 147), none, (.op (.build [Value.int .i64 0, Value.int .i64 0] [(0, 1, (.t 144)), (1, 1, (.t 146))]))⟩ ::
⟨(some 16), none, (.op (.alloc [Value.int .i64 0, Value.int .i64 0] 33))⟩ ::
⟨none, none, (.op (.store 2 (.t 16) (.t 147)))⟩ :: [])) (.seq (.seq (.reg (
    ⟨(some 17), none, (.op (.mv (.c (Value.int .i64 0))))⟩ :: [])) (.block 0 (.loop (.seq (.seq (.reg (
    ⟨(some 148), none, (.op (.mv (.t 17)))⟩ ::
⟨(some 149), none, (.op (.mv (.t 1)))⟩ ::
⟨(some 150), none, (.op (.len (.t 149)))⟩ ::
⟨(some 151), none, (.op (.int .lss (.t 148) (.t 150)))⟩ :: [])) (.cond (.t 151) .skip (.exit 0))) (.seq (.block 1 (.seq (.dreg (
    ⟨(some 155), none, (.op (.loadn 16 (.t 4)))⟩ ::
⟨(some 156), none, (.op (.mv (.t 1)))⟩ ::
⟨(some 157), none, (.op (.mv (.t 17)))⟩ ::
⟨(some 158), none, (.op (.mv (.t 17)))⟩ ::
⟨(some 159), none, (.op (.int .add (.t 158) (.c (Value.int .i64 1))))⟩ ::
⟨(some 160), none, (.op (.slsl 2 (.t 156) (some (.t 157)) (some (.t 159)) none))⟩ ::
⟨(some 161), none, (.call (.c (Value.func (.func 30) #[] #[])) [(.t 155), (.t 160)])⟩ ::
⟨(some 154), none, (.op (.mv (.t 161)))⟩ ::
⟨(some 162), none, (.op (.extract (.t 154) 0))⟩ ::
⟨(some 163), none, (.op (.extract (.t 154) 1))⟩ ::
⟨(some 18), none, (.op (.alloc [Value.int .i64 0, Value.int .i64 0] 33))⟩ ::
⟨none, none, (.op (.store 2 (.t 18) (.t 162)))⟩ ::
⟨(some 19), none, (.op (.mv (.t 163)))⟩ :: []) []) (.seq (.seq (.reg (
    ⟨(some 164), none, (.op (.mv (.t 19)))⟩ ::
⟨(some 165), none, (.op (.int .neq (.t 164) (.c (Value.int .i64 0))))⟩ :: [])) (.cond (.t 165) (.seq (.reg (
    ⟨(some 8), none, (.op (.mv (.c (Value.bool false))))⟩ :: [])) .ret) .skip)) (.reg (
    ⟨(some 166), none, (.op (.faddr 0 (.t 16)))⟩ ::
⟨(some 167), none, (.op (.load1 (.t 166)))⟩ ::
⟨(some 168), none, (.op (.faddr 0 (.t 18)))⟩ ::
⟨(some 169), none, (.op (.load1 (.t 168)))⟩ ::
⟨(some 170), none, (.op (.mnmx false (.t 167) (.t 169)))⟩ ::
⟨(some 171), none, (.op (.faddr 1 (.t 16)))⟩ ::
⟨(some 172), none, (.op (.load1 (.t 171)))⟩ ::
⟨(some 173), none, (.op (.faddr 1 (.t 18)))⟩ ::
⟨(some 174), none, (.op (.load1 (.t 173)))⟩ ::
⟨(some 175), none, (.op (.mnmx true (.t 172) (.t 174)))⟩ ::
⟨(some 176), none, (.op (.build [Value.int .i64 0, Value.int .i64 0] [(0, 1, (.t 170)), (1, 1, (.t 175))]))⟩ ::
⟨none, none, (.op (.store 2 (.t 16) (.t 176)))⟩ :: []))))) (.reg (
    ⟨(some 152), none, (.op (.mv (.t 17)))⟩ ::
⟨(some 153), none, (.op (.int .add (.t 152) (.c (Value.int .i64 1))))⟩ ::
⟨(some 17), none, (.op (.mv (.t 153)))⟩ :: []))))))) (.seq (.reg (
    ⟨(some 177), none, (.op (.loadn 2 (.t 16)))⟩ ::
⟨(some 178), none, (.op (.loadn 2 (.t 12)))⟩ ::
⟨(some 179), none, (.op (.pure (rawOp Try.f7 23 2)))⟩ ::
⟨(some 180), none, (.op (.mv (.t 179)))⟩ ::
⟨(some 181), (some (180, true)), (.call (.c (Value.func (.func 14) #[] #[])) [])⟩ ::
⟨(some 182), none, (.op (.pick (.t 180) (.t 181) (.c (Value.bool false))))⟩ ::
⟨(some 8), none, (.op (.mv (.t 182)))⟩ :: [])) .ret))))))))))))))))
def r7 : List ResultVar := [.tmp 8]
set_option maxRecDepth 1000000 in
set_option maxHeartbeats 4000000 in
theorem fun7 : Fun Try.prog 7 183 4 a7 r7 :=
  ⟨rfl, Try.f7, _, rfl, rfl, rfl, by decide, rfl, rfl, rfl⟩
/-- tumblehome/tumblehomelaw04.DragSame -/
noncomputable def a9 : ACode := (.seq (.reg (
    ⟨(some 3), none, (.op (.box (.t 0) 35))⟩ ::
⟨(some 4), none, (.op (.box (.t 1) 24))⟩ ::
⟨(some 5), none, (.op (.box (.t 2) 51))⟩ ::
⟨(some 6), none, (.op (.mv (.c (Value.bool false))))⟩ :: [])) (.seq (.reg (
    ⟨(some 14), none, (.op (.loadn 16 (.t 3)))⟩ ::
⟨(some 7), none, (.op (.alloc [Value.int .i64 0, Value.int .i64 0, Value.int .i64 0, Value.int .i64 0, Value.int .i64 0, Value.int .i64 0, Value.int .i64 0, Value.int .i64 0, Value.int .i64 0, Value.int .i64 0, Value.int .i64 0, Value.int .i64 0, Value.int .i64 0, Value.int .i64 0, Value.int .i64 0, Value.int .i64 0] 35))⟩ ::
⟨none, none, (.op (.store 16 (.t 7) (.t 14)))⟩ :: [])) (.seq (.reg (
    ⟨(some 15), none, (.op (.build [Value.int .i64 0, Value.int .i64 0] []))⟩ ::
⟨(some 16), none, (.op (.build [Value.int .i64 0, Value.int .i64 0] []))⟩ ::
⟨(some 17), none, (.op (.faddr 3 (.t 7)))⟩ ::
⟨none, none, (.op (.store 1 (.t 17) (.c (Value.int .i64 1))))⟩ ::
⟨(some 18), none, (.op (.faddr 12 (.t 7)))⟩ ::
⟨none, none, (.op (.store 2 (.t 18) (.t 15)))⟩ ::
⟨(some 19), none, (.op (.faddr 14 (.t 7)))⟩ ::
⟨none, none, (.op (.store 2 (.t 19) (.t 16)))⟩ :: [])) (.seq (.reg (
    ⟨(some 20), none, (.op (.faddr 6 (.t 7)))⟩ ::
⟨(some 21), none, (.op (.loadn 2 (.t 20)))⟩ ::
⟨(some 22), none, (.op (.faddr 8 (.t 7)))⟩ ::
⟨none, none, (.op (.store 2 (.t 22) (.t 21)))⟩ :: [])) (.seq (.seq (.reg (
    ⟨(some 23), none, (.op (.loadn 2 (.t 4)))⟩ ::
⟨(some 24), none, (.call (.c (Value.func (.func 13) #[] #[])) [(.t 23)])⟩ ::
⟨(some 25), none, (.op (.mv (.t 24)))⟩ ::
⟨(some 26), (some (25, false)), (.op (.loadn 16 (.t 7)))⟩ ::
⟨(some 27), (some (25, false)), (.op (.loadn 2 (.t 4)))⟩ ::
⟨(some 28), (some (25, false)), (.op (.bslice [Value.slice none 0 0, Value.slice none 0 0] [(0, 2, (.t 27))] 1 24))⟩ ::
⟨(some 29), (some (25, false)), (.call (.c (Value.func (.func 29) #[] #[])) [(.t 26), (.t 28)])⟩ ::
⟨(some 30), (some (25, false)), (.op (.not (.t 29)))⟩ ::
⟨(some 31), none, (.op (.pick (.t 25) (.c (Value.bool true)) (.t 30)))⟩ :: [])) (.cond (.t 31) (.seq (.reg (
    ⟨(some 32), none, (.call (.c (Value.func (.func 14) #[] #[])) [])⟩ ::
⟨(some 6), none, (.op (.mv (.t 32)))⟩ :: [])) .ret) .skip)) (.seq (.reg (
    ⟨(some 33), none, (.op (.loadn 16 (.t 7)))⟩ ::
⟨(some 34), none, (.op (.loadn 6 (.t 5)))⟩ ::
⟨(some 35), none, (.call (.c (Value.func (.func 31) #[] #[])) [(.t 33), (.t 34)])⟩ ::
⟨(some 8), none, (.op (.alloc [Value.int .i64 0, Value.int .i64 0, Value.int .i64 0, Value.int .i64 0, Value.int .i64 0, Value.int .i64 0] 37))⟩ ::
⟨none, none, (.op (.store 6 (.t 8) (.t 35)))⟩ :: [])) (.seq (.reg (
    ⟨(some 36), none, (.op (.faddr 1 (.t 8)))⟩ ::
⟨(some 37), none, (.op (.load1 (.t 36)))⟩ ::
⟨(some 38), none, (.op (.faddr 2 (.t 8)))⟩ ::
⟨none, none, (.op (.store 1 (.t 38) (.t 37)))⟩ :: [])) (.seq (.reg (
    ⟨(some 40), none, (.op (.loadn 16 (.t 7)))⟩ ::
⟨(some 41), none, (.op (.loadn 2 (.t 4)))⟩ ::
⟨(some 42), none, (.op (.loadn 6 (.t 8)))⟩ ::
⟨(some 43), none, (.call (.c (Value.func (.func 21) #[] #[])) [(.t 40), (.t 41), (.t 42)])⟩ ::
⟨(some 39), none, (.op (.mv (.t 43)))⟩ ::
⟨(some 44), none, (.op (.extract (.t 39) 0))⟩ ::
⟨(some 45), none, (.op (.extract (.t 39) 1))⟩ ::
⟨(some 9), none, (.op (.mv (.t 44)))⟩ ::
⟨(some 10), none, (.op (.mv (.t 45)))⟩ :: [])) (.seq (.reg (
    ⟨(some 47), none, (.op (.loadn 16 (.t 7)))⟩ ::
⟨(some 48), none, (.op (.loadn 2 (.t 4)))⟩ ::
⟨(some 49), none, (.op (.bslice [Value.slice none 0 0, Value.slice none 0 0] [(0, 2, (.t 48))] 1 24))⟩ ::
⟨(some 50), none, (.call (.c (Value.func (.func 30) #[] #[])) [(.t 47), (.t 49)])⟩ ::
⟨(some 46), none, (.op (.mv (.t 50)))⟩ ::
⟨(some 51), none, (.op (.extract (.t 46) 0))⟩ ::
⟨(some 52), none, (.op (.extract (.t 46) 1))⟩ ::
⟨(some 11), none, (.op (.alloc [Value.int .i64 0, Value.int .i64 0] 33))⟩ ::
⟨none, none, (.op (.store 2 (.t 11) (.t 51)))⟩ ::
⟨(some 12), none, (.op (.mv (.t 52)))⟩ :: [])) (.seq (.reg (
    ⟨(some 53), none, (.op (.loadn 16 (.t 7)))⟩ ::
⟨(some 54), none, (.op (.faddr 0 (.t 8)))⟩ ::
⟨(some 55), none, (.op (.load1 (.t 54)))⟩ ::
⟨(some 56), none, (.call (.c (Value.func (.func 32) #[] #[])) [(.t 53), (.t 55)])⟩ ::
⟨(some 13), none, (.op (.mv (.t 56)))⟩ :: [])) (.seq (.reg (
    ⟨(some 57), none, (.op (.mv (.t 10)))⟩ ::
⟨(some 58), none, (.op (.int .eql (.t 57) (.c (Value.int .i64 0))))⟩ ::
⟨(some 59), none, (.op (.mv (.t 58)))⟩ ::
⟨(some 60), (some (59, true)), (.op (.mv (.t 12)))⟩ ::
⟨(some 61), (some (59, true)), (.op (.int .eql (.t 60) (.c (Value.int .i64 0))))⟩ ::
⟨(some 62), none, (.op (.pick (.t 59) (.t 61) (.c (Value.bool false))))⟩ ::
⟨(some 63), none, (.op (.mv (.t 62)))⟩ ::
⟨(some 64), (some (63, true)), (.op (.mv (.t 9)))⟩ ::
⟨(some 65), (some (63, true)), (.op (.mv (.t 13)))⟩ ::
⟨(some 66), (some (63, true)), (.op (.int .eql (.t 64) (.t 65)))⟩ ::
⟨(some 67), none, (.op (.pick (.t 63) (.t 66) (.c (Value.bool false))))⟩ ::
⟨(some 68), none, (.op (.mv (.t 67)))⟩ ::
⟨(some 69), (some (68, true)), (.op (.faddr 0 (.t 11)))⟩ ::
⟨(some 70), (some (68, true)), (.op (.load1 (.t 69)))⟩ ::
⟨(some 71), (some (68, true)), (.op (.mv (.t 13)))⟩ ::
⟨(some 72), (some (68, true)), (.op (.int .leq (.t 70) (.t 71)))⟩ ::
⟨(some 73), none, (.op (.pick (.t 68) (.t 72) (.c (Value.bool false))))⟩ ::
⟨(some 74), none, (.op (.mv (.t 73)))⟩ ::
⟨(some 75), (some (74, true)), (.op (.mv (.t 13)))⟩ ::
⟨(some 76), (some (74, true)), (.op (.faddr 1 (.t 11)))⟩ ::
⟨(some 77), (some (74, true)), (.op (.load1 (.t 76)))⟩ ::
⟨(some 78), (some (74, true)), (.op (.int .leq (.t 75) (.t 77)))⟩ ::
⟨(some 79), none, (.op (.pick (.t 74) (.t 78) (.c (Value.bool false))))⟩ ::
⟨(some 80), none, (.op (.mv (.t 79)))⟩ ::
⟨(some 81), (some (80, true)), (.call (.c (Value.func (.func 14) #[] #[])) [])⟩ ::
⟨(some 82), none, (.op (.pick (.t 80) (.t 81) (.c (Value.bool false))))⟩ ::
⟨(some 6), none, (.op (.mv (.t 82)))⟩ :: [])) .ret)))))))))))
def r9 : List ResultVar := [.tmp 6]
set_option maxRecDepth 1000000 in
set_option maxHeartbeats 4000000 in
theorem fun9 : Fun Try.prog 9 83 3 a9 r9 :=
  ⟨rfl, Try.f9, _, rfl, rfl, rfl, by decide, rfl, rfl, rfl⟩
/-- tumblehome/tumblehomelaw04.DragSpans -/
noncomputable def a10 : ACode := (.seq (.reg (
    ⟨(some 3), none, (.op (.box (.t 0) 35))⟩ ::
⟨(some 6), none, (.op (.mv (.c (Value.bool false))))⟩ :: [])) (.seq (.seq (.reg (
    ⟨(some 16), none, (.op (.mv (.t 1)))⟩ ::
⟨(some 17), none, (.call (.c (Value.func (.func 25) #[] #[])) [(.t 16)])⟩ ::
⟨(some 18), none, (.op (.mv (.t 17)))⟩ ::
⟨(some 19), (some (18, false)), (.op (.loadn 16 (.t 3)))⟩ ::
⟨(some 20), (some (18, false)), (.call (.c (Value.func (.func 26) #[] #[])) [(.t 19)])⟩ ::
⟨(some 21), none, (.op (.pick (.t 18) (.c (Value.bool true)) (.t 20)))⟩ :: [])) (.cond (.t 21) (.seq (.reg (
    ⟨(some 22), none, (.call (.c (Value.func (.func 14) #[] #[])) [])⟩ ::
⟨(some 6), none, (.op (.mv (.t 22)))⟩ :: [])) .ret) .skip)) (.seq (.reg (
    ⟨(some 24), none, (.op (.loadn 16 (.t 3)))⟩ ::
⟨(some 25), none, (.op (.mv (.t 1)))⟩ ::
⟨(some 26), none, (.call (.c (Value.func (.func 30) #[] #[])) [(.t 24), (.t 25)])⟩ ::
⟨(some 23), none, (.op (.mv (.t 26)))⟩ ::
⟨(some 27), none, (.op (.extract (.t 23) 0))⟩ ::
⟨(some 28), none, (.op (.extract (.t 23) 1))⟩ ::
⟨(some 7), none, (.op (.alloc [Value.int .i64 0, Value.int .i64 0] 33))⟩ ::
⟨none, none, (.op (.store 2 (.t 7) (.t 27)))⟩ ::
⟨(some 8), none, (.op (.mv (.t 28)))⟩ :: [])) (.seq (.reg (
    ⟨(some 30), none, (.op (.loadn 16 (.t 3)))⟩ ::
⟨(some 31), none, (.op (.mv (.t 1)))⟩ ::
⟨(some 32), none, (.call (.c (Value.func (.func 33) #[] #[])) [(.t 30), (.t 31)])⟩ ::
⟨(some 29), none, (.op (.mv (.t 32)))⟩ ::
⟨(some 33), none, (.op (.extract (.t 29) 0))⟩ ::
⟨(some 34), none, (.op (.extract (.t 29) 1))⟩ ::
⟨(some 9), none, (.op (.alloc [Value.int .i64 0, Value.int .i64 0] 33))⟩ ::
⟨none, none, (.op (.store 2 (.t 9) (.t 33)))⟩ ::
⟨(some 10), none, (.op (.mv (.t 34)))⟩ :: [])) (.seq (.reg (
    ⟨(some 36), none, (.op (.loadn 16 (.t 3)))⟩ ::
⟨(some 37), none, (.op (.mv (.t 1)))⟩ ::
⟨(some 38), none, (.op (.mv (.t 2)))⟩ ::
⟨(some 39), none, (.call (.c (Value.func (.func 34) #[] #[])) [(.t 36), (.t 37), (.t 38)])⟩ ::
⟨(some 35), none, (.op (.mv (.t 39)))⟩ ::
⟨(some 40), none, (.op (.extract (.t 35) 0))⟩ ::
⟨(some 41), none, (.op (.extract (.t 35) 1))⟩ ::
⟨(some 42), none, (.op (.extract (.t 35) 2))⟩ ::
⟨(some 12), none, (.op (.alloc [Value.int .i64 0, Value.int .i64 0, Value.int .i64 0, Value.int .i64 0, Value.int .i64 0, Value.int .i64 0] 37))⟩ ::
⟨(some 11), none, (.op (.mv (.t 40)))⟩ ::
⟨none, none, (.op (.store 6 (.t 12) (.t 41)))⟩ ::
⟨(some 13), none, (.op (.mv (.t 42)))⟩ :: [])) (.seq (.seq (.reg (
    ⟨(some 43), none, (.op (.loadn 2 (.t 7)))⟩ ::
⟨(some 44), none, (.op (.loadn 2 (.t 9)))⟩ ::
⟨(some 45), none, (.op (.pure (rawOp Try.f10 6 2)))⟩ ::
⟨(some 46), none, (.op (.mv (.t 45)))⟩ ::
⟨(some 47), (some (46, false)), (.op (.mv (.t 8)))⟩ ::
⟨(some 48), (some (46, false)), (.op (.mv (.t 10)))⟩ ::
⟨(some 49), (some (46, false)), (.op (.int .neq (.t 47) (.t 48)))⟩ ::
⟨(some 50), none, (.op (.pick (.t 46) (.c (Value.bool true)) (.t 49)))⟩ ::
⟨(some 51), none, (.op (.mv (.t 50)))⟩ ::
⟨(some 52), (some (51, false)), (.op (.mv (.t 13)))⟩ ::
⟨(some 53), (some (51, false)), (.op (.mv (.t 10)))⟩ ::
⟨(some 54), (some (51, false)), (.op (.int .neq (.t 52) (.t 53)))⟩ ::
⟨(some 55), none, (.op (.pick (.t 51) (.c (Value.bool true)) (.t 54)))⟩ :: [])) (.cond (.t 55) (.seq (.reg (
    ⟨(some 6), none, (.op (.mv (.c (Value.bool false))))⟩ :: [])) .ret) .skip)) (.seq (.seq (.reg (
    ⟨(some 56), none, (.op (.mv (.t 13)))⟩ ::
⟨(some 57), none, (.op (.int .neq (.t 56) (.c (Value.int .i64 0))))⟩ :: [])) (.cond (.t 57) (.seq (.reg (
    ⟨(some 58), none, (.op (.mv (.t 11)))⟩ ::
⟨(some 59), none, (.op (.int .eql (.t 58) (.c (Value.int .i64 0))))⟩ ::
⟨(some 60), none, (.op (.mv (.t 59)))⟩ ::
⟨(some 61), (some (60, true)), (.op (.loadn 6 (.t 12)))⟩ ::
⟨(some 62), (some (60, true)), (.op (.build [Value.int .i64 0, Value.int .i64 0, Value.int .i64 0, Value.int .i64 0, Value.int .i64 0, Value.int .i64 0] []))⟩ ::
⟨(some 63), (some (60, true)), (.op (.pure (rawOp Try.f10 9 5)))⟩ ::
⟨(some 64), none, (.op (.pick (.t 60) (.t 63) (.c (Value.bool false))))⟩ ::
⟨(some 65), none, (.op (.mv (.t 64)))⟩ ::
⟨(some 66), (some (65, true)), (.call (.c (Value.func (.func 14) #[] #[])) [])⟩ ::
⟨(some 67), none, (.op (.pick (.t 65) (.t 66) (.c (Value.bool false))))⟩ ::
⟨(some 6), none, (.op (.mv (.t 67)))⟩ :: [])) .ret) .skip)) (.seq (.seq (.reg (
    ⟨(some 68), none, (.op (.mv (.t 11)))⟩ ::
⟨(some 69), none, (.op (.int .lss (.t 68) (.c (Value.int .i64 0))))⟩ ::
⟨(some 70), none, (.op (.mv (.t 69)))⟩ ::
⟨(some 71), (some (70, false)), (.op (.mv (.t 11)))⟩ ::
⟨(some 72), (some (70, false)), (.op (.mv (.t 1)))⟩ ::
⟨(some 73), (some (70, false)), (.op (.len (.t 72)))⟩ ::
⟨(some 74), (some (70, false)), (.op (.int .geq (.t 71) (.t 73)))⟩ ::
⟨(some 75), none, (.op (.pick (.t 70) (.c (Value.bool true)) (.t 74)))⟩ :: [])) (.cond (.t 75) (.seq (.reg (
    ⟨(some 6), none, (.op (.mv (.c (Value.bool false))))⟩ :: [])) .ret) .skip)) (.seq (.dreg (
    ⟨(some 77), none, (.op (.loadn 16 (.t 3)))⟩ ::
⟨(some 78), none, (.op (.mv (.t 1)))⟩ ::
⟨(some 79), none, (.op (.mv (.t 11)))⟩ ::
⟨(some 80), none, (.op (.ixsl 2 (.t 78) (.t 79)))⟩ ::
⟨(some 81), none, (.op (.loadn 2 (.t 80)))⟩ ::
⟨(some 82), none, (.op (.loadn 6 (.t 12)))⟩ ::
⟨(some 83), none, (.call (.c (Value.func (.func 22) #[] #[])) [(.t 77), (.t 81), (.t 82)])⟩ ::
⟨(some 76), none, (.op (.mv (.t 83)))⟩ ::
⟨(some 84), none, (.op (.extract (.t 76) 0))⟩ ::
⟨(some 85), none, (.op (.extract (.t 76) 1))⟩ ::
⟨(some 14), none, (.op (.mv (.t 84)))⟩ ::
⟨(some 15), none, (.op (.mv (.t 85)))⟩ :: []) []) (.seq (.reg (
    ⟨(some 86), none, (.op (.mv (.t 15)))⟩ ::
⟨(some 87), none, (.op (.int .eql (.t 86) (.c (Value.int .i64 0))))⟩ ::
⟨(some 88), none, (.op (.mv (.t 87)))⟩ ::
⟨(some 89), (some (88, true)), (.op (.mv (.t 2)))⟩ ::
⟨(some 90), (some (88, true)), (.op (.mv (.t 89)))⟩ ::
⟨(some 91), (some (90, true)), (.op (.mv (.t 14)))⟩ ::
⟨(some 92), (some (90, true)), (.op (.faddr 1 (.t 9)))⟩ ::
⟨(some 93), (some (90, true)), (.op (.load1 (.t 92)))⟩ ::
⟨(some 94), (some (90, true)), (.op (.int .eql (.t 91) (.t 93)))⟩ ::
⟨(some 95), (some (88, true)), (.op (.pick (.t 90) (.t 94) (.c (Value.bool false))))⟩ ::
⟨(some 96), (some (88, true)), (.op (.mv (.t 95)))⟩ ::
⟨(some 97), (some (96, false)), (.op (.mv (.t 2)))⟩ ::
⟨(some 98), (some (96, false)), (.op (.not (.t 97)))⟩ ::
⟨(some 99), (some (96, false)), (.op (.mv (.t 98)))⟩ ::
⟨(some 100), (some (99, true)), (.op (.mv (.t 14)))⟩ ::
⟨(some 101), (some (99, true)), (.op (.faddr 0 (.t 9)))⟩ ::
⟨(some 102), (some (99, true)), (.op (.load1 (.t 101)))⟩ ::
⟨(some 103), (some (99, true)), (.op (.int .eql (.t 100) (.t 102)))⟩ ::
⟨(some 104), (some (96, false)), (.op (.pick (.t 99) (.t 103) (.c (Value.bool false))))⟩ ::
⟨(some 105), (some (88, true)), (.op (.pick (.t 96) (.c (Value.bool true)) (.t 104)))⟩ ::
⟨(some 106), none, (.op (.pick (.t 88) (.t 105) (.c (Value.bool false))))⟩ ::
⟨(some 107), none, (.op (.mv (.t 106)))⟩ ::
⟨(some 108), (some (107, true)), (.call (.c (Value.func (.func 14) #[] #[])) [])⟩ ::
⟨(some 109), none, (.op (.pick (.t 107) (.t 108) (.c (Value.bool false))))⟩ ::
⟨(some 6), none, (.op (.mv (.t 109)))⟩ :: [])) .ret))))))))))
def r10 : List ResultVar := [.tmp 6]
set_option maxRecDepth 1000000 in
set_option maxHeartbeats 4000000 in
theorem fun10 : Fun Try.prog 10 110 3 a10 r10 :=
  ⟨rfl, Try.f10, _, rfl, rfl, rfl, by decide, rfl, rfl, rfl⟩
/-- tumblehome/tumblehomelaw04.DragAttained -/
noncomputable def a11 : ACode := (.seq (.reg (
    ⟨(some 2), none, (.op (.box (.t 0) 35))⟩ ::
⟨(some 4), none, (.op (.mv (.c (Value.bool false))))⟩ :: [])) (.seq (.seq (.reg (
    ⟨(some 17), none, (.op (.loadn 16 (.t 2)))⟩ ::
⟨(some 18), none, (.op (.mv (.t 1)))⟩ ::
⟨(some 19), none, (.call (.c (Value.func (.func 29) #[] #[])) [(.t 17), (.t 18)])⟩ ::
⟨(some 20), none, (.op (.not (.t 19)))⟩ :: [])) (.cond (.t 20) (.seq (.reg (
    ⟨(some 21), none, (.call (.c (Value.func (.func 14) #[] #[])) [])⟩ ::
⟨(some 4), none, (.op (.mv (.t 21)))⟩ :: [])) .ret) .skip)) (.seq (.reg (
    ⟨(some 23), none, (.op (.loadn 16 (.t 2)))⟩ ::
⟨(some 24), none, (.op (.mv (.t 1)))⟩ ::
⟨(some 25), none, (.call (.c (Value.func (.func 30) #[] #[])) [(.t 23), (.t 24)])⟩ ::
⟨(some 22), none, (.op (.mv (.t 25)))⟩ ::
⟨(some 26), none, (.op (.extract (.t 22) 0))⟩ ::
⟨(some 27), none, (.op (.extract (.t 22) 1))⟩ ::
⟨(some 5), none, (.op (.alloc [Value.int .i64 0, Value.int .i64 0] 33))⟩ ::
⟨none, none, (.op (.store 2 (.t 5) (.t 26)))⟩ ::
⟨(some 6), none, (.op (.mv (.t 27)))⟩ :: [])) (.seq (.reg (
    ⟨(some 29), none, (.op (.loadn 16 (.t 2)))⟩ ::
⟨(some 30), none, (.op (.mv (.t 1)))⟩ ::
⟨(some 31), none, (.call (.c (Value.func (.func 34) #[] #[])) [(.t 29), (.t 30), (.c (Value.bool false))])⟩ ::
⟨(some 28), none, (.op (.mv (.t 31)))⟩ ::
⟨(some 32), none, (.op (.extract (.t 28) 0))⟩ ::
⟨(some 33), none, (.op (.extract (.t 28) 1))⟩ ::
⟨(some 34), none, (.op (.extract (.t 28) 2))⟩ ::
⟨(some 8), none, (.op (.alloc [Value.int .i64 0, Value.int .i64 0, Value.int .i64 0, Value.int .i64 0, Value.int .i64 0, Value.int .i64 0] 37))⟩ ::
⟨(some 7), none, (.op (.mv (.t 32)))⟩ ::
⟨none, none, (.op (.store 6 (.t 8) (.t 33)))⟩ ::
⟨(some 9), none, (.op (.mv (.t 34)))⟩ :: [])) (.seq (.reg (
    ⟨(some 36), none, (.op (.loadn 16 (.t 2)))⟩ ::
⟨(some 37), none, (.op (.mv (.t 1)))⟩ ::
⟨(some 38), none, (.call (.c (Value.func (.func 34) #[] #[])) [(.t 36), (.t 37), (.c (Value.bool true))])⟩ ::
⟨(some 35), none, (.op (.mv (.t 38)))⟩ ::
⟨(some 39), none, (.op (.extract (.t 35) 0))⟩ ::
⟨(some 40), none, (.op (.extract (.t 35) 1))⟩ ::
⟨(some 41), none, (.op (.extract (.t 35) 2))⟩ ::
⟨(some 11), none, (.op (.alloc [Value.int .i64 0, Value.int .i64 0, Value.int .i64 0, Value.int .i64 0, Value.int .i64 0, Value.int .i64 0] 37))⟩ ::
⟨(some 10), none, (.op (.mv (.t 39)))⟩ ::
⟨none, none, (.op (.store 6 (.t 11) (.t 40)))⟩ ::
⟨(some 12), none, (.op (.mv (.t 41)))⟩ :: [])) (.seq (.seq (.reg (
    ⟨(some 42), none, (.op (.mv (.t 6)))⟩ ::
⟨(some 43), none, (.op (.int .neq (.t 42) (.c (Value.int .i64 0))))⟩ ::
⟨(some 44), none, (.op (.mv (.t 43)))⟩ ::
⟨(some 45), (some (44, false)), (.op (.mv (.t 9)))⟩ ::
⟨(some 46), (some (44, false)), (.op (.int .neq (.t 45) (.c (Value.int .i64 0))))⟩ ::
⟨(some 47), none, (.op (.pick (.t 44) (.c (Value.bool true)) (.t 46)))⟩ ::
⟨(some 48), none, (.op (.mv (.t 47)))⟩ ::
⟨(some 49), (some (48, false)), (.op (.mv (.t 12)))⟩ ::
⟨(some 50), (some (48, false)), (.op (.int .neq (.t 49) (.c (Value.int .i64 0))))⟩ ::
⟨(some 51), none, (.op (.pick (.t 48) (.c (Value.bool true)) (.t 50)))⟩ ::
⟨(some 52), none, (.op (.mv (.t 51)))⟩ ::
⟨(some 53), (some (52, false)), (.op (.mv (.t 7)))⟩ ::
⟨(some 54), (some (52, false)), (.op (.int .lss (.t 53) (.c (Value.int .i64 0))))⟩ ::
⟨(some 55), none, (.op (.pick (.t 52) (.c (Value.bool true)) (.t 54)))⟩ ::
⟨(some 56), none, (.op (.mv (.t 55)))⟩ ::
⟨(some 57), (some (56, false)), (.op (.mv (.t 7)))⟩ ::
⟨(some 58), (some (56, false)), (.op (.mv (.t 1)))⟩ ::
⟨(some 59), (some (56, false)), (.op (.len (.t 58)))⟩ ::
⟨(some 60), (some (56, false)), (.op (.int .geq (.t 57) (.t 59)))⟩ ::
⟨(some 61), none, (.op (.pick (.t 56) (.c (Value.bool true)) (.t 60)))⟩ ::
⟨(some 62), none, (.op (.mv (.t 61)))⟩ ::
⟨(some 63), (some (62, false)), (.op (.mv (.t 10)))⟩ ::
⟨(some 64), (some (62, false)), (.op (.int .lss (.t 63) (.c (Value.int .i64 0))))⟩ ::
⟨(some 65), none, (.op (.pick (.t 62) (.c (Value.bool true)) (.t 64)))⟩ ::
⟨(some 66), none, (.op (.mv (.t 65)))⟩ ::
⟨(some 67), (some (66, false)), (.op (.mv (.t 10)))⟩ ::
⟨(some 68), (some (66, false)), (.op (.mv (.t 1)))⟩ ::
⟨(some 69), (some (66, false)), (.op (.len (.t 68)))⟩ ::
⟨(some 70), (some (66, false)), (.op (.int .geq (.t 67) (.t 69)))⟩ ::
⟨(some 71), none, (.op (.pick (.t 66) (.c (Value.bool true)) (.t 70)))⟩ :: [])) (.cond (.t 71) (.seq (.reg (
    ⟨(some 4), none, (.op (.mv (.c (Value.bool false))))⟩ :: [])) .ret) .skip)) (.seq (.dreg (
    ⟨(some 73), none, (.op (.loadn 16 (.t 2)))⟩ ::
⟨(some 74), none, (.op (.mv (.t 1)))⟩ ::
⟨(some 75), none, (.op (.mv (.t 7)))⟩ ::
⟨(some 76), none, (.op (.ixsl 2 (.t 74) (.t 75)))⟩ ::
⟨(some 77), none, (.op (.loadn 2 (.t 76)))⟩ ::
⟨(some 78), none, (.op (.loadn 6 (.t 8)))⟩ ::
⟨(some 79), none, (.call (.c (Value.func (.func 22) #[] #[])) [(.t 73), (.t 77), (.t 78)])⟩ ::
⟨(some 72), none, (.op (.mv (.t 79)))⟩ ::
⟨(some 80), none, (.op (.extract (.t 72) 0))⟩ ::
⟨(some 81), none, (.op (.extract (.t 72) 1))⟩ ::
⟨(some 13), none, (.op (.mv (.t 80)))⟩ ::
⟨(some 9), none, (.op (.mv (.t 81)))⟩ :: []) []) (.seq (.dreg (
    ⟨(some 83), none, (.op (.loadn 16 (.t 2)))⟩ ::
⟨(some 84), none, (.op (.mv (.t 1)))⟩ ::
⟨(some 85), none, (.op (.mv (.t 10)))⟩ ::
⟨(some 86), none, (.op (.ixsl 2 (.t 84) (.t 85)))⟩ ::
⟨(some 87), none, (.op (.loadn 2 (.t 86)))⟩ ::
⟨(some 88), none, (.op (.loadn 6 (.t 11)))⟩ ::
⟨(some 89), none, (.call (.c (Value.func (.func 22) #[] #[])) [(.t 83), (.t 87), (.t 88)])⟩ ::
⟨(some 82), none, (.op (.mv (.t 89)))⟩ ::
⟨(some 90), none, (.op (.extract (.t 82) 0))⟩ ::
⟨(some 91), none, (.op (.extract (.t 82) 1))⟩ ::
⟨(some 14), none, (.op (.mv (.t 90)))⟩ ::
⟨(some 12), none, (.op (.mv (.t 91)))⟩ :: []) []) (.seq (.dreg (
    ⟨(some 93), none, (.op (.loadn 16 (.t 2)))⟩ ::
⟨(some 94), none, (.op (.mv (.t 1)))⟩ ::
⟨(some 95), none, (.op (.mv (.t 7)))⟩ ::
⟨(some 96), none, (.op (.ixsl 2 (.t 94) (.t 95)))⟩ ::
⟨(some 97), none, (.op (.loadn 2 (.t 96)))⟩ ::
⟨(some 98), none, (.op (.loadn 6 (.t 8)))⟩ ::
⟨(some 99), none, (.call (.c (Value.func (.func 21) #[] #[])) [(.t 93), (.t 97), (.t 98)])⟩ ::
⟨(some 92), none, (.op (.mv (.t 99)))⟩ ::
⟨(some 100), none, (.op (.extract (.t 92) 0))⟩ ::
⟨(some 101), none, (.op (.extract (.t 92) 1))⟩ ::
⟨(some 15), none, (.op (.mv (.t 100)))⟩ ::
⟨(some 16), none, (.op (.mv (.t 101)))⟩ :: []) []) (.seq (.reg (
    ⟨(some 102), none, (.op (.mv (.t 9)))⟩ ::
⟨(some 103), none, (.op (.int .eql (.t 102) (.c (Value.int .i64 0))))⟩ ::
⟨(some 104), none, (.op (.mv (.t 103)))⟩ ::
⟨(some 105), (some (104, true)), (.op (.mv (.t 12)))⟩ ::
⟨(some 106), (some (104, true)), (.op (.int .eql (.t 105) (.c (Value.int .i64 0))))⟩ ::
⟨(some 107), none, (.op (.pick (.t 104) (.t 106) (.c (Value.bool false))))⟩ ::
⟨(some 108), none, (.op (.mv (.t 107)))⟩ ::
⟨(some 109), (some (108, true)), (.op (.mv (.t 16)))⟩ ::
⟨(some 110), (some (108, true)), (.op (.int .eql (.t 109) (.c (Value.int .i64 0))))⟩ ::
⟨(some 111), none, (.op (.pick (.t 108) (.t 110) (.c (Value.bool false))))⟩ ::
⟨(some 112), none, (.op (.mv (.t 111)))⟩ ::
⟨(some 113), (some (112, true)), (.op (.mv (.t 13)))⟩ ::
⟨(some 114), (some (112, true)), (.op (.faddr 0 (.t 5)))⟩ ::
⟨(some 115), (some (112, true)), (.op (.load1 (.t 114)))⟩ ::
⟨(some 116), (some (112, true)), (.op (.int .eql (.t 113) (.t 115)))⟩ ::
⟨(some 117), none, (.op (.pick (.t 112) (.t 116) (.c (Value.bool false))))⟩ ::
⟨(some 118), none, (.op (.mv (.t 117)))⟩ ::
⟨(some 119), (some (118, true)), (.op (.mv (.t 14)))⟩ ::
⟨(some 120), (some (118, true)), (.op (.faddr 1 (.t 5)))⟩ ::
⟨(some 121), (some (118, true)), (.op (.load1 (.t 120)))⟩ ::
⟨(some 122), (some (118, true)), (.op (.int .eql (.t 119) (.t 121)))⟩ ::
⟨(some 123), none, (.op (.pick (.t 118) (.t 122) (.c (Value.bool false))))⟩ ::
⟨(some 124), none, (.op (.mv (.t 123)))⟩ ::
⟨(some 125), (some (124, true)), (.op (.mv (.t 15)))⟩ ::
⟨(some 126), (some (124, true)), (.op (.mv (.t 13)))⟩ ::
⟨(some 127), (some (124, true)), (.op (.int .eql (.t 125) (.t 126)))⟩ ::
⟨(some 128), none, (.op (.pick (.t 124) (.t 127) (.c (Value.bool false))))⟩ ::
⟨(some 129), none, (.op (.mv (.t 128)))⟩ ::
⟨(some 130), (some (129, true)), (.call (.c (Value.func (.func 14) #[] #[])) [])⟩ ::
⟨(some 131), none, (.op (.pick (.t 129) (.t 130) (.c (Value.bool false))))⟩ ::
⟨(some 4), none, (.op (.mv (.t 131)))⟩ :: [])) .ret))))))))))
def r11 : List ResultVar := [.tmp 4]
set_option maxRecDepth 1000000 in
set_option maxHeartbeats 4000000 in
theorem fun11 : Fun Try.prog 11 132 2 a11 r11 :=
  ⟨rfl, Try.f11, _, rfl, rfl, rfl, by decide, rfl, rfl, rfl⟩
/-- tumblehome/tumblehomelaw04.great -/
noncomputable def a13 : ACode := (.seq (.reg (
    ⟨(some 1), none, (.op (.box (.t 0) 24))⟩ ::
⟨(some 2), none, (.op (.mv (.c (Value.bool false))))⟩ :: [])) (.seq (.reg (
    ⟨(some 3), none, (.op (.faddr 0 (.t 1)))⟩ ::
⟨(some 4), none, (.op (.load1 (.t 3)))⟩ ::
⟨(some 5), none, (.op (.len (.t 4)))⟩ ::
⟨(some 6), none, (.op (.int .gtr (.t 5) (.c (Value.int .i64 20))))⟩ ::
⟨(some 7), none, (.op (.mv (.t 6)))⟩ ::
⟨(some 8), (some (7, false)), (.op (.faddr 1 (.t 1)))⟩ ::
⟨(some 9), (some (7, false)), (.op (.load1 (.t 8)))⟩ ::
⟨(some 10), (some (7, false)), (.op (.len (.t 9)))⟩ ::
⟨(some 11), (some (7, false)), (.op (.int .gtr (.t 10) (.c (Value.int .i64 20))))⟩ ::
⟨(some 12), none, (.op (.pick (.t 7) (.c (Value.bool true)) (.t 11)))⟩ ::
⟨(some 2), none, (.op (.mv (.t 12)))⟩ :: [])) .ret))
def r13 : List ResultVar := [.tmp 2]
set_option maxRecDepth 1000000 in
set_option maxHeartbeats 4000000 in
theorem fun13 : Fun Try.prog 13 13 1 a13 r13 :=
  ⟨rfl, Try.f13, _, rfl, rfl, rfl, by decide, rfl, rfl, rfl⟩
/-- tumblehome/tumblehomelaw04.Works -/
noncomputable def a14 : ACode := (.seq (.reg (
    ⟨(some 0), none, (.op (.mv (.c (Value.bool false))))⟩ :: [])) (.seq (.reg (
    ⟨(some 14), none, (.call (.c (Value.func (.func 35) #[] #[])) [])⟩ ::
⟨(some 1), none, (.op (.alloc [Value.int .i64 0, Value.int .i64 0, Value.int .i64 0, Value.int .i64 0, Value.int .i64 0, Value.int .i64 0, Value.int .i64 0, Value.int .i64 0, Value.int .i64 0, Value.int .i64 0, Value.int .i64 0, Value.int .i64 0, Value.int .i64 0, Value.int .i64 0, Value.int .i64 0, Value.int .i64 0] 35))⟩ ::
⟨none, none, (.op (.store 16 (.t 1) (.t 14)))⟩ :: [])) (.seq (.reg (
    ⟨(some 16), none, (.call (.c (Value.func (.func 36) #[] #[])) [])⟩ ::
⟨(some 17), none, (.call (.c (Value.func (.func 15) #[] #[])) [(.t 16), (.c (Value.int .i64 13))])⟩ ::
⟨(some 15), none, (.op (.mv (.t 17)))⟩ ::
⟨(some 18), none, (.op (.extract (.t 15) 0))⟩ ::
⟨(some 19), none, (.op (.extract (.t 15) 1))⟩ ::
⟨(some 2), none, (.op (.mv (.t 18)))⟩ ::
⟨(some 3), none, (.op (.mv (.t 19)))⟩ :: [])) (.seq (.reg (
    ⟨(some 21), none, (.op (.loadn 16 (.t 1)))⟩ ::
⟨(some 22), none, (.call (.c (Value.func (.func 19) #[] #[])) [(.t 21)])⟩ ::
⟨(some 20), none, (.op (.mv (.t 22)))⟩ ::
⟨(some 23), none, (.op (.extract (.t 20) 0))⟩ ::
⟨(some 24), none, (.op (.extract (.t 20) 1))⟩ ::
⟨(some 25), none, (.op (.extract (.t 20) 2))⟩ ::
⟨(some 4), none, (.op (.alloc [Value.int .i64 0, Value.int .i64 0] 33))⟩ ::
⟨(some 5), none, (.op (.alloc [Value.int .i64 0, Value.int .i64 0] 33))⟩ ::
⟨none, none, (.op (.store 2 (.t 4) (.t 23)))⟩ ::
⟨none, none, (.op (.store 2 (.t 5) (.t 24)))⟩ ::
⟨(some 6), none, (.op (.mv (.t 25)))⟩ :: [])) (.seq (.dreg (
    ⟨(some 27), none, (.op (.loadn 16 (.t 1)))⟩ ::
⟨(some 28), none, (.call (.c (Value.func (.func 36) #[] #[])) [])⟩ ::
⟨(some 29), none, (.op (.build [Value.int .i64 0, Value.int .i64 0, Value.int .i64 0, Value.int .i64 0, Value.int .i64 0, Value.int .i64 0] [(0, 1, (.c (Value.int .i64 2))), (1, 1, (.c (Value.int .i64 1000))), (2, 1, (.c (Value.int .i64 2000))), (3, 1, (.c (Value.int .i64 200))), (4, 1, (.c (Value.int .i64 100)))]))⟩ ::
⟨(some 30), none, (.call (.c (Value.func (.func 21) #[] #[])) [(.t 27), (.t 28), (.t 29)])⟩ ::
⟨(some 26), none, (.op (.mv (.t 30)))⟩ ::
⟨(some 31), none, (.op (.extract (.t 26) 0))⟩ ::
⟨(some 32), none, (.op (.extract (.t 26) 1))⟩ ::
⟨(some 7), none, (.op (.mv (.t 31)))⟩ ::
⟨(some 8), none, (.op (.mv (.t 32)))⟩ :: []) []) (.seq (.dreg (
    ⟨(some 34), none, (.op (.loadn 16 (.t 1)))⟩ ::
⟨(some 35), none, (.call (.c (Value.func (.func 36) #[] #[])) [])⟩ ::
⟨(some 36), none, (.call (.c (Value.func (.func 37) #[] #[])) [])⟩ ::
⟨(some 37), none, (.op (.bslice [Value.slice none 0 0, Value.slice none 0 0, Value.slice none 0 0, Value.slice none 0 0] [(0, 2, (.t 35)), (2, 2, (.t 36))] 2 24))⟩ ::
⟨(some 38), none, (.call (.c (Value.func (.func 30) #[] #[])) [(.t 34), (.t 37)])⟩ ::
⟨(some 33), none, (.op (.mv (.t 38)))⟩ ::
⟨(some 39), none, (.op (.extract (.t 33) 0))⟩ ::
⟨(some 40), none, (.op (.extract (.t 33) 1))⟩ ::
⟨(some 9), none, (.op (.alloc [Value.int .i64 0, Value.int .i64 0] 33))⟩ ::
⟨none, none, (.op (.store 2 (.t 9) (.t 39)))⟩ ::
⟨(some 10), none, (.op (.mv (.t 40)))⟩ :: []) []) (.seq (.dreg (
    ⟨(some 42), none, (.op (.loadn 16 (.t 1)))⟩ ::
⟨(some 43), none, (.op (.loadn 16 (.t 1)))⟩ ::
⟨(some 44), none, (.op (.bslice [Value.int .i64 0, Value.int .i64 0, Value.int .i64 0, Value.int .i64 0, Value.int .i64 0, Value.int .i64 0, Value.int .i64 0, Value.int .i64 0, Value.int .i64 0, Value.int .i64 0, Value.int .i64 0, Value.int .i64 0, Value.int .i64 0, Value.int .i64 0, Value.int .i64 0, Value.int .i64 0, Value.int .i64 0, Value.int .i64 0, Value.int .i64 0, Value.int .i64 0, Value.int .i64 0, Value.int .i64 0, Value.int .i64 0, Value.int .i64 0, Value.int .i64 0, Value.int .i64 0, Value.int .i64 0, Value.int .i64 0, Value.int .i64 0, Value.int .i64 0, Value.int .i64 0, Value.int .i64 0] [(0, 16, (.t 42)), (16, 16, (.t 43))] 2 35))⟩ ::
⟨(some 45), none, (.call (.c (Value.func (.func 36) #[] #[])) [])⟩ ::
⟨(some 46), none, (.op (.bslice [Value.slice none 0 0, Value.slice none 0 0] [(0, 2, (.t 45))] 1 24))⟩ ::
⟨(some 47), none, (.op (.bslice [Value.int .i64 0, Value.int .i64 0] [(0, 1, (.c (Value.int .i64 590))), (1, 1, (.c (Value.int .i64 589)))] 2 2))⟩ ::
⟨(some 48), none, (.call (.c (Value.func (.func 27) #[] #[])) [(.t 44), (.t 46), (.t 47)])⟩ ::
⟨(some 41), none, (.op (.mv (.t 48)))⟩ ::
⟨(some 49), none, (.op (.extract (.t 41) 0))⟩ ::
⟨(some 50), none, (.op (.extract (.t 41) 1))⟩ ::
⟨(some 51), none, (.op (.extract (.t 41) 2))⟩ ::
⟨(some 11), none, (.op (.mv (.t 49)))⟩ ::
⟨(some 12), none, (.op (.mv (.t 50)))⟩ ::
⟨(some 13), none, (.op (.mv (.t 51)))⟩ :: []) []) (.seq (.reg (
    ⟨(some 52), none, (.op (.mv (.t 3)))⟩ ::
⟨(some 53), none, (.op (.int .eql (.t 52) (.c (Value.int .i64 0))))⟩ ::
⟨(some 54), none, (.op (.mv (.t 53)))⟩ ::
⟨(some 55), (some (54, true)), (.op (.mv (.t 6)))⟩ ::
⟨(some 56), (some (54, true)), (.op (.int .eql (.t 55) (.c (Value.int .i64 0))))⟩ ::
⟨(some 57), none, (.op (.pick (.t 54) (.t 56) (.c (Value.bool false))))⟩ ::
⟨(some 58), none, (.op (.mv (.t 57)))⟩ ::
⟨(some 59), (some (58, true)), (.op (.mv (.t 8)))⟩ ::
⟨(some 60), (some (58, true)), (.op (.int .eql (.t 59) (.c (Value.int .i64 0))))⟩ ::
⟨(some 61), none, (.op (.pick (.t 58) (.t 60) (.c (Value.bool false))))⟩ ::
⟨(some 62), none, (.op (.mv (.t 61)))⟩ ::
⟨(some 63), (some (62, true)), (.op (.mv (.t 10)))⟩ ::
⟨(some 64), (some (62, true)), (.op (.int .eql (.t 63) (.c (Value.int .i64 0))))⟩ ::
⟨(some 65), none, (.op (.pick (.t 62) (.t 64) (.c (Value.bool false))))⟩ ::
⟨(some 66), none, (.op (.mv (.t 65)))⟩ ::
⟨(some 67), (some (66, true)), (.op (.mv (.t 13)))⟩ ::
⟨(some 68), (some (66, true)), (.op (.int .eql (.t 67) (.c (Value.int .i64 0))))⟩ ::
⟨(some 69), none, (.op (.pick (.t 66) (.t 68) (.c (Value.bool false))))⟩ ::
⟨(some 70), none, (.op (.mv (.t 69)))⟩ ::
⟨(some 71), (some (70, true)), (.op (.mv (.t 2)))⟩ ::
⟨(some 72), (some (70, true)), (.op (.int .eql (.t 71) (.c (Value.int .i64 88))))⟩ ::
⟨(some 73), none, (.op (.pick (.t 70) (.t 72) (.c (Value.bool false))))⟩ ::
⟨(some 74), none, (.op (.mv (.t 73)))⟩ ::
⟨(some 75), (some (74, true)), (.op (.loadn 2 (.t 4)))⟩ ::
⟨(some 76), (some (74, true)), (.op (.build [Value.int .i64 0, Value.int .i64 0] [(0, 1, (.c (Value.int .i64 10))), (1, 1, (.c (Value.int .i64 20)))]))⟩ ::
⟨(some 77), (some (74, true)), (.op (.pure (rawOp Try.f14 7 25)))⟩ ::
⟨(some 78), none, (.op (.pick (.t 74) (.t 77) (.c (Value.bool false))))⟩ ::
⟨(some 79), none, (.op (.mv (.t 78)))⟩ ::
⟨(some 80), (some (79, true)), (.op (.loadn 2 (.t 5)))⟩ ::
⟨(some 81), (some (79, true)), (.op (.build [Value.int .i64 0, Value.int .i64 0] [(0, 1, (.c (Value.int .i64 32))), (1, 1, (.c (Value.int .i64 40)))]))⟩ ::
⟨(some 82), (some (79, true)), (.op (.pure (rawOp Try.f14 7 30)))⟩ ::
⟨(some 83), none, (.op (.pick (.t 79) (.t 82) (.c (Value.bool false))))⟩ ::
⟨(some 84), none, (.op (.mv (.t 83)))⟩ ::
⟨(some 85), (some (84, true)), (.op (.mv (.t 7)))⟩ ::
⟨(some 86), (some (84, true)), (.op (.int .eql (.t 85) (.c (Value.int .i64 288))))⟩ ::
⟨(some 87), none, (.op (.pick (.t 84) (.t 86) (.c (Value.bool false))))⟩ ::
⟨(some 88), none, (.op (.mv (.t 87)))⟩ ::
⟨(some 89), (some (88, true)), (.op (.loadn 2 (.t 9)))⟩ ::
⟨(some 90), (some (88, true)), (.op (.build [Value.int .i64 0, Value.int .i64 0] [(0, 1, (.c (Value.int .i64 288))), (1, 1, (.c (Value.int .i64 590)))]))⟩ ::
⟨(some 91), (some (88, true)), (.op (.pure (rawOp Try.f14 7 39)))⟩ ::
⟨(some 92), none, (.op (.pick (.t 88) (.t 91) (.c (Value.bool false))))⟩ ::
⟨(some 93), none, (.op (.mv (.t 92)))⟩ ::
⟨(some 94), (some (93, true)), (.op (.mv (.t 11)))⟩ ::
⟨(some 95), (some (93, true)), (.op (.int .eql (.t 94) (.c (Value.int .i64 1))))⟩ ::
⟨(some 96), none, (.op (.pick (.t 93) (.t 95) (.c (Value.bool false))))⟩ ::
⟨(some 97), none, (.op (.mv (.t 96)))⟩ ::
⟨(some 98), (some (97, true)), (.op (.mv (.t 12)))⟩ ::
⟨(some 99), (some (97, true)), (.op (.int .eql (.t 98) (.c (Value.int .i64 2))))⟩ ::
⟨(some 100), none, (.op (.pick (.t 97) (.t 99) (.c (Value.bool false))))⟩ ::
⟨(some 0), none, (.op (.mv (.t 100)))⟩ :: [])) .ret))))))))
def r14 : List ResultVar := [.tmp 0]
set_option maxRecDepth 1000000 in
set_option maxHeartbeats 4000000 in
theorem fun14 : Fun Try.prog 14 101 0 a14 r14 :=
  ⟨rfl, Try.f14, _, rfl, rfl, rfl, by decide, rfl, rfl, rfl⟩
/-- tumblehome/drag.Friction -/
noncomputable def a15 : ACode := (.seq (.reg (
    ⟨(some 2), none, (.op (.box (.t 0) 24))⟩ ::
⟨(some 4), none, (.op (.mv (.c (Value.int .i64 0))))⟩ ::
⟨(some 5), none, (.op (.mv (.c (Value.int .i64 0))))⟩ :: [])) (.seq (.seq (.reg (
    ⟨(some 8), none, (.op (.loadn 2 (.t 2)))⟩ ::
⟨(some 9), none, (.call (.c (Value.func (.func 17) #[] #[])) [(.t 8)])⟩ ::
⟨(some 6), none, (.op (.mv (.t 9)))⟩ :: [])) (.seq (.reg (
    ⟨(some 10), none, (.op (.mv (.t 6)))⟩ ::
⟨(some 11), none, (.op (.int .neq (.t 10) (.c (Value.int .i64 0))))⟩ :: [])) (.cond (.t 11) (.seq (.reg (
    ⟨(some 12), none, (.op (.mv (.t 6)))⟩ ::
⟨(some 4), none, (.op (.mv (.c (Value.int .i64 0))))⟩ ::
⟨(some 5), none, (.op (.mv (.t 12)))⟩ :: [])) .ret) .skip))) (.seq (.reg (
    ⟨(some 13), none, (.op (.loadn 2 (.t 2)))⟩ ::
⟨(some 14), none, (.op (.build [Value.slice none 0 0, Value.slice none 0 0] [(0, 2, (.t 13))]))⟩ ::
⟨(some 7), none, (.op (.alloc [Value.slice none 0 0, Value.slice none 0 0] 67))⟩ ::
⟨none, none, (.op (.store 2 (.t 7) (.t 14)))⟩ :: [])) (.seq (.seq (.reg (
    ⟨(some 15), none, (.op (.loadn 2 (.t 7)))⟩ ::
⟨(some 16), none, (.op (.mv (.t 1)))⟩ ::
⟨(some 17), none, (.op (.mv (.t 1)))⟩ ::
⟨(some 18), none, (.op (.build [Value.int .i64 0, Value.int .i64 0] [(0, 1, (.t 16)), (1, 1, (.t 17))]))⟩ ::
⟨(some 19), none, (.call (.c (Value.func (.func 38) #[] #[])) [(.t 15), (.t 18)])⟩ ::
⟨(some 20), none, (.op (.not (.t 19)))⟩ :: [])) (.cond (.t 20) (.seq (.reg (
    ⟨(some 4), none, (.op (.mv (.c (Value.int .i64 0))))⟩ ::
⟨(some 5), none, (.op (.mv (.c (Value.int .i64 19))))⟩ :: [])) .ret) .skip)) (.seq (.reg (
    ⟨(some 21), none, (.op (.loadn 2 (.t 7)))⟩ ::
⟨(some 22), none, (.op (.mv (.t 1)))⟩ ::
⟨(some 23), none, (.call (.c (Value.func (.func 39) #[] #[])) [(.t 21), (.t 22)])⟩ ::
⟨(some 4), none, (.op (.mv (.t 23)))⟩ ::
⟨(some 5), none, (.op (.mv (.c (Value.int .i64 0))))⟩ :: [])) .ret)))))
def r15 : List ResultVar := [.tmp 4, .tmp 5]
set_option maxRecDepth 1000000 in
set_option maxHeartbeats 4000000 in
theorem fun15 : Fun Try.prog 15 24 2 a15 r15 :=
  ⟨rfl, Try.f15, _, rfl, rfl, rfl, by decide, rfl, rfl, rfl⟩
/-- tumblehome/tumblehomeref04.Friction -/
noncomputable def a16 : ACode := (.seq (.reg (
    ⟨(some 2), none, (.op (.box (.t 0) 24))⟩ ::
⟨(some 4), none, (.op (.mv (.c (Value.int .i64 0))))⟩ ::
⟨(some 5), none, (.op (.mv (.c (Value.int .i64 0))))⟩ :: [])) (.seq (.seq (.reg (
    ⟨(some 8), none, (.op (.loadn 2 (.t 2)))⟩ ::
⟨(some 9), none, (.call (.c (Value.func (.func 18) #[] #[])) [(.t 8)])⟩ ::
⟨(some 10), none, (.op (.int .neq (.t 9) (.c (Value.int .i64 0))))⟩ :: [])) (.cond (.t 10) (.seq (.reg (
    ⟨(some 11), none, (.op (.loadn 2 (.t 2)))⟩ ::
⟨(some 12), none, (.call (.c (Value.func (.func 18) #[] #[])) [(.t 11)])⟩ ::
⟨(some 4), none, (.op (.mv (.c (Value.int .i64 0))))⟩ ::
⟨(some 5), none, (.op (.mv (.t 12)))⟩ :: [])) .ret) .skip)) (.seq (.reg (
    ⟨(some 14), none, (.op (.loadn 2 (.t 2)))⟩ ::
⟨(some 15), none, (.op (.mv (.t 1)))⟩ ::
⟨(some 16), none, (.call (.c (Value.func (.func 40) #[] #[])) [(.t 14), (.t 15)])⟩ ::
⟨(some 13), none, (.op (.mv (.t 16)))⟩ ::
⟨(some 17), none, (.op (.extract (.t 13) 0))⟩ ::
⟨(some 18), none, (.op (.extract (.t 13) 1))⟩ ::
⟨(some 6), none, (.op (.mv (.t 17)))⟩ ::
⟨(some 7), none, (.op (.mv (.t 18)))⟩ :: [])) (.seq (.seq (.reg (
    ⟨(some 19), none, (.op (.mv (.t 7)))⟩ ::
⟨(some 20), none, (.op (.not (.t 19)))⟩ :: [])) (.cond (.t 20) (.seq (.reg (
    ⟨(some 4), none, (.op (.mv (.c (Value.int .i64 0))))⟩ ::
⟨(some 5), none, (.op (.mv (.c (Value.int .i64 19))))⟩ :: [])) .ret) .skip)) (.seq (.reg (
    ⟨(some 21), none, (.op (.mv (.t 6)))⟩ ::
⟨(some 4), none, (.op (.mv (.t 21)))⟩ ::
⟨(some 5), none, (.op (.mv (.c (Value.int .i64 0))))⟩ :: [])) .ret)))))
def r16 : List ResultVar := [.tmp 4, .tmp 5]
set_option maxRecDepth 1000000 in
set_option maxHeartbeats 4000000 in
theorem fun16 : Fun Try.prog 16 22 2 a16 r16 :=
  ⟨rfl, Try.f16, _, rfl, rfl, rfl, by decide, rfl, rfl, rfl⟩
/-- tumblehome/drag.CheckLine -/
noncomputable def a17 : ACode := (.seq (.reg (
    ⟨(some 1), none, (.op (.box (.t 0) 24))⟩ ::
⟨(some 2), none, (.op (.mv (.c (Value.int .i64 0))))⟩ :: [])) (.seq (.block 0 (.seq (.reg (
    ⟨(some 8), none, (.op (.faddr 0 (.t 1)))⟩ ::
⟨(some 9), none, (.op (.load1 (.t 8)))⟩ ::
⟨(some 10), none, (.op (.len (.t 9)))⟩ ::
⟨(some 11), none, (.op (.int .lss (.t 10) (.c (Value.int .i64 2))))⟩ ::
⟨(some 12), none, (.op (.mv (.t 11)))⟩ ::
⟨(some 13), (some (12, false)), (.op (.faddr 0 (.t 1)))⟩ ::
⟨(some 14), (some (12, false)), (.op (.load1 (.t 13)))⟩ ::
⟨(some 15), (some (12, false)), (.op (.len (.t 14)))⟩ ::
⟨(some 16), (some (12, false)), (.op (.int .gtr (.t 15) (.c (Value.int .i64 12))))⟩ ::
⟨(some 17), none, (.op (.pick (.t 12) (.c (Value.bool true)) (.t 16)))⟩ ::
⟨(some 7), none, (.op (.mv (.t 17)))⟩ :: [])) (.cond (.t 7) (.seq (.reg (
    ⟨(some 2), none, (.op (.mv (.c (Value.int .i64 6))))⟩ :: [])) .ret) (.seq (.reg (
    ⟨(some 19), none, (.op (.faddr 1 (.t 1)))⟩ ::
⟨(some 20), none, (.op (.load1 (.t 19)))⟩ ::
⟨(some 21), none, (.op (.len (.t 20)))⟩ ::
⟨(some 22), none, (.op (.faddr 0 (.t 1)))⟩ ::
⟨(some 23), none, (.op (.load1 (.t 22)))⟩ ::
⟨(some 24), none, (.op (.len (.t 23)))⟩ ::
⟨(some 25), none, (.op (.int .neq (.t 21) (.t 24)))⟩ ::
⟨(some 18), none, (.op (.mv (.t 25)))⟩ :: [])) (.cond (.t 18) (.seq (.reg (
    ⟨(some 2), none, (.op (.mv (.c (Value.int .i64 15))))⟩ :: [])) .ret) .skip))))) (.seq (.reg (
    ⟨(some 3), none, (.op (.mv (.c (Value.int .i64 0))))⟩ ::
⟨(some 4), none, (.op (.mv (.c (Value.int .i64 100000))))⟩ :: [])) (.seq (.seq (.reg (
    ⟨(some 26), none, (.op (.faddr 0 (.t 1)))⟩ ::
⟨(some 27), none, (.op (.load1 (.t 26)))⟩ ::
⟨(some 28), none, (.op (.len (.t 27)))⟩ ::
⟨(some 29), none, (.op (.mv (.c (Value.int .i64 0))))⟩ :: [])) (.block 1 (.loop (.seq (.reg (
    ⟨(some 30), none, (.op (.int .lss (.t 29) (.t 28)))⟩ :: [])) (.seq (.cond (.t 30) .skip (.exit 1)) (.seq (.block 2 (.seq (.reg (
    ⟨(some 31), none, (.op (.mv (.t 29)))⟩ ::
⟨(some 32), none, (.op (.ixsl 1 (.t 27) (.t 29)))⟩ ::
⟨(some 33), none, (.op (.load1 (.t 32)))⟩ ::
⟨(some 5), none, (.op (.mv (.t 31)))⟩ ::
⟨(some 6), none, (.op (.mv (.t 33)))⟩ :: [])) (.seq (.seq (.dreg (
    ⟨(some 34), none, (.op (.mv (.t 6)))⟩ ::
⟨(some 35), none, (.op (.mv (.t 3)))⟩ ::
⟨(some 36), none, (.op (.int .add (.t 35) (.c (Value.int .i64 1))))⟩ ::
⟨(some 37), none, (.call (.c (Value.func (.func 43) #[] #[])) [(.t 34), (.t 36), (.c (Value.int .i64 1000000000))])⟩ ::
⟨(some 38), none, (.op (.faddr 1 (.t 1)))⟩ ::
⟨(some 39), none, (.op (.load1 (.t 38)))⟩ ::
⟨(some 40), none, (.op (.mv (.t 5)))⟩ ::
⟨(some 41), none, (.op (.ixsl 1 (.t 39) (.t 40)))⟩ ::
⟨(some 42), none, (.op (.load1 (.t 41)))⟩ ::
⟨(some 43), none, (.op (.mv (.t 4)))⟩ ::
⟨(some 44), none, (.call (.c (Value.func (.func 43) #[] #[])) [(.t 42), (.c (Value.int .i64 0)), (.t 43)])⟩ ::
⟨(some 45), none, (.op (.bslice [Value.int .i64 0, Value.int .i64 0, Value.int .i64 0, Value.int .i64 0, Value.int .i64 0, Value.int .i64 0, Value.int .i64 0, Value.int .i64 0] [(0, 4, (.t 37)), (4, 4, (.t 44))] 2 77))⟩ ::
⟨(some 46), none, (.call (.c (Value.func (.func 42) #[] #[])) [(.t 45)])⟩ ::
⟨(some 47), none, (.call (.c (Value.func (.func 41) #[] #[])) [(.t 46)])⟩ ::
⟨(some 48), none, (.op (.not (.t 47)))⟩ :: []) []) (.cond (.t 48) (.seq (.reg (
    ⟨(some 2), none, (.op (.mv (.c (Value.int .i64 2))))⟩ :: [])) .ret) .skip)) (.dreg (
    ⟨(some 49), none, (.op (.mv (.t 6)))⟩ ::
⟨(some 50), none, (.op (.faddr 1 (.t 1)))⟩ ::
⟨(some 51), none, (.op (.load1 (.t 50)))⟩ ::
⟨(some 52), none, (.op (.mv (.t 5)))⟩ ::
⟨(some 53), none, (.op (.ixsl 1 (.t 51) (.t 52)))⟩ ::
⟨(some 54), none, (.op (.load1 (.t 53)))⟩ ::
⟨(some 3), none, (.op (.mv (.t 49)))⟩ ::
⟨(some 4), none, (.op (.mv (.t 54)))⟩ :: []) [])))) (.reg (
    ⟨(some 55), none, (.op (.int .add (.t 29) (.c (Value.int .i64 1))))⟩ ::
⟨(some 29), none, (.op (.mv (.t 55)))⟩ :: [])))))))) (.seq (.reg (
    ⟨(some 2), none, (.op (.mv (.c (Value.int .i64 0))))⟩ :: [])) .ret)))))
def r17 : List ResultVar := [.tmp 2]
set_option maxRecDepth 1000000 in
set_option maxHeartbeats 4000000 in
theorem fun17 : Fun Try.prog 17 56 1 a17 r17 :=
  ⟨rfl, Try.f17, _, rfl, rfl, rfl, by decide, rfl, rfl, rfl⟩
/-- tumblehome/tumblehomeref04.CheckLine -/
noncomputable def a18 : ACode := (.seq (.reg (
    ⟨(some 1), none, (.op (.box (.t 0) 24))⟩ ::
⟨(some 2), none, (.op (.mv (.c (Value.int .i64 0))))⟩ :: [])) (.seq (.seq (.reg (
    ⟨(some 4), none, (.op (.faddr 0 (.t 1)))⟩ ::
⟨(some 5), none, (.op (.load1 (.t 4)))⟩ ::
⟨(some 6), none, (.op (.len (.t 5)))⟩ ::
⟨(some 7), none, (.op (.int .lss (.t 6) (.c (Value.int .i64 2))))⟩ ::
⟨(some 8), none, (.op (.mv (.t 7)))⟩ ::
⟨(some 9), (some (8, false)), (.op (.faddr 0 (.t 1)))⟩ ::
⟨(some 10), (some (8, false)), (.op (.load1 (.t 9)))⟩ ::
⟨(some 11), (some (8, false)), (.op (.len (.t 10)))⟩ ::
⟨(some 12), (some (8, false)), (.op (.int .gtr (.t 11) (.c (Value.int .i64 12))))⟩ ::
⟨(some 13), none, (.op (.pick (.t 8) (.c (Value.bool true)) (.t 12)))⟩ :: [])) (.cond (.t 13) (.seq (.reg (
    ⟨(some 2), none, (.op (.mv (.c (Value.int .i64 6))))⟩ :: [])) .ret) .skip)) (.seq (.seq (.reg (
    ⟨(some 14), none, (.op (.faddr 1 (.t 1)))⟩ ::
⟨(some 15), none, (.op (.load1 (.t 14)))⟩ ::
⟨(some 16), none, (.op (.len (.t 15)))⟩ ::
⟨(some 17), none, (.op (.faddr 0 (.t 1)))⟩ ::
⟨(some 18), none, (.op (.load1 (.t 17)))⟩ ::
⟨(some 19), none, (.op (.len (.t 18)))⟩ ::
⟨(some 20), none, (.op (.int .neq (.t 16) (.t 19)))⟩ :: [])) (.cond (.t 20) (.seq (.reg (
    ⟨(some 2), none, (.op (.mv (.c (Value.int .i64 15))))⟩ :: [])) .ret) .skip)) (.seq (.seq (.reg (
    ⟨(some 3), none, (.op (.mv (.c (Value.int .i64 0))))⟩ :: [])) (.block 0 (.loop (.seq (.seq (.reg (
    ⟨(some 21), none, (.op (.mv (.t 3)))⟩ ::
⟨(some 22), none, (.op (.faddr 0 (.t 1)))⟩ ::
⟨(some 23), none, (.op (.load1 (.t 22)))⟩ ::
⟨(some 24), none, (.op (.len (.t 23)))⟩ ::
⟨(some 25), none, (.op (.int .lss (.t 21) (.t 24)))⟩ :: [])) (.cond (.t 25) .skip (.exit 0))) (.seq (.block 1 (.seq (.dreg (
    ⟨(some 28), none, (.op (.faddr 0 (.t 1)))⟩ ::
⟨(some 29), none, (.op (.load1 (.t 28)))⟩ ::
⟨(some 30), none, (.op (.mv (.t 3)))⟩ ::
⟨(some 31), none, (.op (.ixsl 1 (.t 29) (.t 30)))⟩ ::
⟨(some 32), none, (.op (.load1 (.t 31)))⟩ ::
⟨(some 33), none, (.call (.c (Value.func (.func 44) #[] #[])) [(.t 32), (.c (Value.int .i64 1)), (.c (Value.int .i64 1000000000))])⟩ ::
⟨(some 34), none, (.op (.not (.t 33)))⟩ ::
⟨(some 35), none, (.op (.mv (.t 34)))⟩ ::
⟨(some 36), (some (35, false)), (.op (.faddr 1 (.t 1)))⟩ ::
⟨(some 37), (some (35, false)), (.op (.load1 (.t 36)))⟩ ::
⟨(some 38), (some (35, false)), (.op (.mv (.t 3)))⟩ ::
⟨(some 39), (some (35, false)), (.op (.ixsl 1 (.t 37) (.t 38)))⟩ ::
⟨(some 40), (some (35, false)), (.op (.load1 (.t 39)))⟩ ::
⟨(some 41), (some (35, false)), (.call (.c (Value.func (.func 44) #[] #[])) [(.t 40), (.c (Value.int .i64 0)), (.c (Value.int .i64 100000))])⟩ ::
⟨(some 42), (some (35, false)), (.op (.not (.t 41)))⟩ ::
⟨(some 43), none, (.op (.pick (.t 35) (.c (Value.bool true)) (.t 42)))⟩ ::
⟨(some 44), none, (.op (.mv (.t 43)))⟩ ::
⟨(some 45), (some (44, false)), (.op (.mv (.t 3)))⟩ ::
⟨(some 46), (some (44, false)), (.op (.int .gtr (.t 45) (.c (Value.int .i64 0))))⟩ ::
⟨(some 47), (some (44, false)), (.op (.mv (.t 46)))⟩ ::
⟨(some 48), (some (47, true)), (.op (.faddr 0 (.t 1)))⟩ ::
⟨(some 49), (some (47, true)), (.op (.load1 (.t 48)))⟩ ::
⟨(some 50), (some (47, true)), (.op (.mv (.t 3)))⟩ ::
⟨(some 51), (some (47, true)), (.op (.ixsl 1 (.t 49) (.t 50)))⟩ ::
⟨(some 52), (some (47, true)), (.op (.load1 (.t 51)))⟩ ::
⟨(some 53), (some (47, true)), (.op (.faddr 0 (.t 1)))⟩ ::
⟨(some 54), (some (47, true)), (.op (.load1 (.t 53)))⟩ ::
⟨(some 55), (some (47, true)), (.op (.mv (.t 3)))⟩ ::
⟨(some 56), (some (47, true)), (.op (.int .sub (.t 55) (.c (Value.int .i64 1))))⟩ ::
⟨(some 57), (some (47, true)), (.op (.ixsl 1 (.t 54) (.t 56)))⟩ ::
⟨(some 58), (some (47, true)), (.op (.load1 (.t 57)))⟩ ::
⟨(some 59), (some (47, true)), (.op (.int .leq (.t 52) (.t 58)))⟩ ::
⟨(some 60), (some (47, true)), (.op (.mv (.t 59)))⟩ ::
⟨(some 61), (some (60, false)), (.op (.faddr 1 (.t 1)))⟩ ::
⟨(some 62), (some (60, false)), (.op (.load1 (.t 61)))⟩ ::
⟨(some 63), (some (60, false)), (.op (.mv (.t 3)))⟩ ::
⟨(some 64), (some (60, false)), (.op (.ixsl 1 (.t 62) (.t 63)))⟩ ::
⟨(some 65), (some (60, false)), (.op (.load1 (.t 64)))⟩ ::
⟨(some 66), (some (60, false)), (.op (.faddr 1 (.t 1)))⟩ ::
⟨(some 67), (some (60, false)), (.op (.load1 (.t 66)))⟩ ::
⟨(some 68), (some (60, false)), (.op (.mv (.t 3)))⟩ ::
⟨(some 69), (some (60, false)), (.op (.int .sub (.t 68) (.c (Value.int .i64 1))))⟩ ::
⟨(some 70), (some (60, false)), (.op (.ixsl 1 (.t 67) (.t 69)))⟩ ::
⟨(some 71), (some (60, false)), (.op (.load1 (.t 70)))⟩ ::
⟨(some 72), (some (60, false)), (.op (.int .gtr (.t 65) (.t 71)))⟩ ::
⟨(some 73), (some (47, true)), (.op (.pick (.t 60) (.c (Value.bool true)) (.t 72)))⟩ ::
⟨(some 74), (some (44, false)), (.op (.pick (.t 47) (.t 73) (.c (Value.bool false))))⟩ ::
⟨(some 75), none, (.op (.pick (.t 44) (.c (Value.bool true)) (.t 74)))⟩ :: []) []) (.cond (.t 75) (.seq (.reg (
    ⟨(some 2), none, (.op (.mv (.c (Value.int .i64 2))))⟩ :: [])) .ret) .skip))) (.reg (
    ⟨(some 26), none, (.op (.mv (.t 3)))⟩ ::
⟨(some 27), none, (.op (.int .add (.t 26) (.c (Value.int .i64 1))))⟩ ::
⟨(some 3), none, (.op (.mv (.t 27)))⟩ :: []))))))) (.seq (.reg (
    ⟨(some 2), none, (.op (.mv (.c (Value.int .i64 0))))⟩ :: [])) .ret)))))
def r18 : List ResultVar := [.tmp 2]
set_option maxRecDepth 1000000 in
set_option maxHeartbeats 4000000 in
theorem fun18 : Fun Try.prog 18 76 1 a18 r18 :=
  ⟨rfl, Try.f18, _, rfl, rfl, rfl, by decide, rfl, rfl, rfl⟩
/-- tumblehome/drag.Reynolds -/
noncomputable def a19 : ACode := (.seq (.reg (
    ⟨(some 1), none, (.op (.box (.t 0) 35))⟩ ::
⟨(some 2), none, (.op (.alloc [Value.int .i64 0, Value.int .i64 0] 33))⟩ ::
⟨(some 3), none, (.op (.alloc [Value.int .i64 0, Value.int .i64 0] 33))⟩ ::
⟨(some 4), none, (.op (.mv (.c (Value.int .i64 0))))⟩ :: [])) (.seq (.seq (.reg (
    ⟨(some 7), none, (.op (.loadn 16 (.t 1)))⟩ ::
⟨(some 8), none, (.call (.c (Value.func (.func 23) #[] #[])) [(.t 7)])⟩ ::
⟨(some 5), none, (.op (.mv (.t 8)))⟩ :: [])) (.seq (.reg (
    ⟨(some 9), none, (.op (.mv (.t 5)))⟩ ::
⟨(some 10), none, (.op (.int .neq (.t 9) (.c (Value.int .i64 0))))⟩ :: [])) (.cond (.t 10) (.seq (.reg (
    ⟨(some 11), none, (.op (.build [Value.int .i64 0, Value.int .i64 0] []))⟩ ::
⟨(some 12), none, (.op (.build [Value.int .i64 0, Value.int .i64 0] []))⟩ ::
⟨(some 13), none, (.op (.mv (.t 5)))⟩ ::
⟨none, none, (.op (.store 2 (.t 2) (.t 11)))⟩ ::
⟨none, none, (.op (.store 2 (.t 3) (.t 12)))⟩ ::
⟨(some 4), none, (.op (.mv (.t 13)))⟩ :: [])) .ret) .skip))) (.seq (.reg (
    ⟨(some 14), none, (.op (.loadn 16 (.t 1)))⟩ ::
⟨(some 15), none, (.op (.build [Value.int .i64 0, Value.int .i64 0, Value.int .i64 0, Value.int .i64 0, Value.int .i64 0, Value.int .i64 0, Value.int .i64 0, Value.int .i64 0, Value.int .i64 0, Value.int .i64 0, Value.int .i64 0, Value.int .i64 0, Value.int .i64 0, Value.int .i64 0, Value.int .i64 0, Value.int .i64 0] [(0, 16, (.t 14))]))⟩ ::
⟨(some 16), none, (.call (.c (Value.func (.func 45) #[] #[])) [(.t 15)])⟩ ::
⟨(some 6), none, (.op (.alloc [Value.int .i64 0, Value.int .i64 0, Value.int .i64 0, Value.int .i64 0] 80))⟩ ::
⟨none, none, (.op (.store 4 (.t 6) (.t 16)))⟩ :: [])) (.seq (.dreg (
    ⟨(some 17), none, (.op (.ixarr 2 2 (.t 6) (.c (Value.int .i64 0))))⟩ ::
⟨(some 18), none, (.op (.loadn 2 (.t 17)))⟩ ::
⟨(some 19), none, (.op (.ixarr 2 2 (.t 6) (.c (Value.int .i64 1))))⟩ ::
⟨(some 20), none, (.op (.loadn 2 (.t 19)))⟩ ::
⟨none, none, (.op (.store 2 (.t 2) (.t 18)))⟩ ::
⟨none, none, (.op (.store 2 (.t 3) (.t 20)))⟩ ::
⟨(some 4), none, (.op (.mv (.c (Value.int .i64 0))))⟩ :: []) [((.t 19), (.t 2))]) .ret))))
def r19 : List ResultVar := [.cell 2 33, .cell 3 33, .tmp 4]
set_option maxRecDepth 1000000 in
set_option maxHeartbeats 4000000 in
theorem fun19 : Fun Try.prog 19 21 1 a19 r19 :=
  ⟨rfl, Try.f19, _, rfl, rfl, rfl, by decide, rfl, rfl, rfl⟩
/-- tumblehome/tumblehomeref04.Reynolds -/
noncomputable def a20 : ACode := (.seq (.reg (
    ⟨(some 1), none, (.op (.box (.t 0) 35))⟩ ::
⟨(some 2), none, (.op (.alloc [Value.int .i64 0, Value.int .i64 0] 33))⟩ ::
⟨(some 3), none, (.op (.alloc [Value.int .i64 0, Value.int .i64 0] 33))⟩ ::
⟨(some 4), none, (.op (.mv (.c (Value.int .i64 0))))⟩ :: [])) (.seq (.seq (.reg (
    ⟨(some 9), none, (.op (.loadn 16 (.t 1)))⟩ ::
⟨(some 10), none, (.call (.c (Value.func (.func 24) #[] #[])) [(.t 9)])⟩ ::
⟨(some 11), none, (.op (.int .neq (.t 10) (.c (Value.int .i64 0))))⟩ :: [])) (.cond (.t 11) (.seq (.reg (
    ⟨(some 12), none, (.op (.build [Value.int .i64 0, Value.int .i64 0] []))⟩ ::
⟨(some 13), none, (.op (.build [Value.int .i64 0, Value.int .i64 0] []))⟩ ::
⟨(some 14), none, (.op (.loadn 16 (.t 1)))⟩ ::
⟨(some 15), none, (.call (.c (Value.func (.func 24) #[] #[])) [(.t 14)])⟩ ::
⟨none, none, (.op (.store 2 (.t 2) (.t 12)))⟩ ::
⟨none, none, (.op (.store 2 (.t 3) (.t 13)))⟩ ::
⟨(some 4), none, (.op (.mv (.t 15)))⟩ :: [])) .ret) .skip)) (.seq (.reg (
    ⟨(some 17), none, (.op (.loadn 16 (.t 1)))⟩ ::
⟨(some 18), none, (.op (.faddr 6 (.t 1)))⟩ ::
⟨(some 19), none, (.op (.faddr 1 (.t 18)))⟩ ::
⟨(some 20), none, (.op (.load1 (.t 19)))⟩ ::
⟨(some 21), none, (.op (.faddr 8 (.t 1)))⟩ ::
⟨(some 22), none, (.op (.faddr 1 (.t 21)))⟩ ::
⟨(some 23), none, (.op (.load1 (.t 22)))⟩ ::
⟨(some 24), none, (.call (.c (Value.func (.func 46) #[] #[])) [(.t 17), (.t 20), (.t 23)])⟩ ::
⟨(some 16), none, (.op (.mv (.t 24)))⟩ ::
⟨(some 25), none, (.op (.extract (.t 16) 0))⟩ ::
⟨(some 26), none, (.op (.extract (.t 16) 1))⟩ ::
⟨(some 5), none, (.op (.mv (.t 25)))⟩ ::
⟨(some 6), none, (.op (.mv (.t 26)))⟩ :: [])) (.seq (.reg (
    ⟨(some 28), none, (.op (.loadn 16 (.t 1)))⟩ ::
⟨(some 29), none, (.op (.faddr 6 (.t 1)))⟩ ::
⟨(some 30), none, (.op (.faddr 0 (.t 29)))⟩ ::
⟨(some 31), none, (.op (.load1 (.t 30)))⟩ ::
⟨(some 32), none, (.op (.faddr 8 (.t 1)))⟩ ::
⟨(some 33), none, (.op (.faddr 0 (.t 32)))⟩ ::
⟨(some 34), none, (.op (.load1 (.t 33)))⟩ ::
⟨(some 35), none, (.call (.c (Value.func (.func 46) #[] #[])) [(.t 28), (.t 31), (.t 34)])⟩ ::
⟨(some 27), none, (.op (.mv (.t 35)))⟩ ::
⟨(some 36), none, (.op (.extract (.t 27) 0))⟩ ::
⟨(some 37), none, (.op (.extract (.t 27) 1))⟩ ::
⟨(some 7), none, (.op (.mv (.t 36)))⟩ ::
⟨(some 8), none, (.op (.mv (.t 37)))⟩ :: [])) (.seq (.reg (
    ⟨(some 38), none, (.op (.mv (.t 5)))⟩ ::
⟨(some 39), none, (.op (.mv (.t 7)))⟩ ::
⟨(some 40), none, (.op (.build [Value.int .i64 0, Value.int .i64 0] [(0, 1, (.t 38)), (1, 1, (.t 39))]))⟩ ::
⟨(some 41), none, (.op (.mv (.t 6)))⟩ ::
⟨(some 42), none, (.op (.mv (.t 8)))⟩ ::
⟨(some 43), none, (.op (.build [Value.int .i64 0, Value.int .i64 0] [(0, 1, (.t 41)), (1, 1, (.t 42))]))⟩ ::
⟨none, none, (.op (.store 2 (.t 2) (.t 40)))⟩ ::
⟨none, none, (.op (.store 2 (.t 3) (.t 43)))⟩ ::
⟨(some 4), none, (.op (.mv (.c (Value.int .i64 0))))⟩ :: [])) .ret)))))
def r20 : List ResultVar := [.cell 2 33, .cell 3 33, .tmp 4]
set_option maxRecDepth 1000000 in
set_option maxHeartbeats 4000000 in
theorem fun20 : Fun Try.prog 20 44 1 a20 r20 :=
  ⟨rfl, Try.f20, _, rfl, rfl, rfl, by decide, rfl, rfl, rfl⟩
/-- tumblehome/drag.Ship -/
noncomputable def a21 : ACode := (.seq (.reg (
    ⟨(some 3), none, (.op (.box (.t 0) 35))⟩ ::
⟨(some 4), none, (.op (.box (.t 1) 24))⟩ ::
⟨(some 5), none, (.op (.box (.t 2) 37))⟩ ::
⟨(some 6), none, (.op (.mv (.c (Value.int .i64 0))))⟩ ::
⟨(some 7), none, (.op (.mv (.c (Value.int .i64 0))))⟩ :: [])) (.seq (.seq (.reg (
    ⟨(some 14), none, (.op (.loadn 16 (.t 3)))⟩ ::
⟨(some 15), none, (.call (.c (Value.func (.func 23) #[] #[])) [(.t 14)])⟩ ::
⟨(some 8), none, (.op (.mv (.t 15)))⟩ :: [])) (.seq (.reg (
    ⟨(some 16), none, (.op (.mv (.t 8)))⟩ ::
⟨(some 17), none, (.op (.int .neq (.t 16) (.c (Value.int .i64 0))))⟩ :: [])) (.cond (.t 17) (.seq (.reg (
    ⟨(some 18), none, (.op (.mv (.t 8)))⟩ ::
⟨(some 6), none, (.op (.mv (.c (Value.int .i64 0))))⟩ ::
⟨(some 7), none, (.op (.mv (.t 18)))⟩ :: [])) .ret) .skip))) (.seq (.seq (.reg (
    ⟨(some 19), none, (.op (.loadn 2 (.t 4)))⟩ ::
⟨(some 20), none, (.call (.c (Value.func (.func 17) #[] #[])) [(.t 19)])⟩ ::
⟨(some 9), none, (.op (.mv (.t 20)))⟩ :: [])) (.seq (.reg (
    ⟨(some 21), none, (.op (.mv (.t 9)))⟩ ::
⟨(some 22), none, (.op (.int .neq (.t 21) (.c (Value.int .i64 0))))⟩ :: [])) (.cond (.t 22) (.seq (.reg (
    ⟨(some 23), none, (.op (.mv (.t 9)))⟩ ::
⟨(some 6), none, (.op (.mv (.c (Value.int .i64 0))))⟩ ::
⟨(some 7), none, (.op (.mv (.t 23)))⟩ :: [])) .ret) .skip))) (.seq (.seq (.dreg (
    ⟨(some 24), none, (.op (.faddr 0 (.t 5)))⟩ ::
⟨(some 25), none, (.op (.load1 (.t 24)))⟩ ::
⟨(some 26), none, (.op (.faddr 4 (.t 3)))⟩ ::
⟨(some 27), none, (.op (.faddr 0 (.t 26)))⟩ ::
⟨(some 28), none, (.op (.load1 (.t 27)))⟩ ::
⟨(some 29), none, (.op (.faddr 4 (.t 3)))⟩ ::
⟨(some 30), none, (.op (.faddr 1 (.t 29)))⟩ ::
⟨(some 31), none, (.op (.load1 (.t 30)))⟩ ::
⟨(some 32), none, (.call (.c (Value.func (.func 43) #[] #[])) [(.t 25), (.t 28), (.t 31)])⟩ ::
⟨(some 33), none, (.op (.faddr 1 (.t 5)))⟩ ::
⟨(some 34), none, (.op (.load1 (.t 33)))⟩ ::
⟨(some 35), none, (.op (.faddr 6 (.t 3)))⟩ ::
⟨(some 36), none, (.op (.faddr 0 (.t 35)))⟩ ::
⟨(some 37), none, (.op (.load1 (.t 36)))⟩ ::
⟨(some 38), none, (.op (.faddr 6 (.t 3)))⟩ ::
⟨(some 39), none, (.op (.faddr 1 (.t 38)))⟩ ::
⟨(some 40), none, (.op (.load1 (.t 39)))⟩ ::
⟨(some 41), none, (.call (.c (Value.func (.func 43) #[] #[])) [(.t 34), (.t 37), (.t 40)])⟩ ::
⟨(some 42), none, (.op (.faddr 2 (.t 5)))⟩ ::
⟨(some 43), none, (.op (.load1 (.t 42)))⟩ ::
⟨(some 44), none, (.op (.faddr 8 (.t 3)))⟩ ::
⟨(some 45), none, (.op (.faddr 0 (.t 44)))⟩ ::
⟨(some 46), none, (.op (.load1 (.t 45)))⟩ ::
⟨(some 47), none, (.op (.faddr 8 (.t 3)))⟩ ::
⟨(some 48), none, (.op (.faddr 1 (.t 47)))⟩ ::
⟨(some 49), none, (.op (.load1 (.t 48)))⟩ ::
⟨(some 50), none, (.call (.c (Value.func (.func 43) #[] #[])) [(.t 43), (.t 46), (.t 49)])⟩ ::
⟨(some 51), none, (.op (.faddr 3 (.t 5)))⟩ ::
⟨(some 52), none, (.op (.load1 (.t 51)))⟩ ::
⟨(some 53), none, (.op (.faddr 10 (.t 3)))⟩ ::
⟨(some 54), none, (.op (.faddr 0 (.t 53)))⟩ ::
⟨(some 55), none, (.op (.load1 (.t 54)))⟩ ::
⟨(some 56), none, (.op (.faddr 10 (.t 3)))⟩ ::
⟨(some 57), none, (.op (.faddr 1 (.t 56)))⟩ ::
⟨(some 58), none, (.op (.load1 (.t 57)))⟩ ::
⟨(some 59), none, (.call (.c (Value.func (.func 43) #[] #[])) [(.t 52), (.t 55), (.t 58)])⟩ ::
⟨(some 60), none, (.op (.faddr 4 (.t 5)))⟩ ::
⟨(some 61), none, (.op (.load1 (.t 60)))⟩ ::
⟨(some 62), none, (.op (.faddr 12 (.t 3)))⟩ ::
⟨(some 63), none, (.op (.faddr 0 (.t 62)))⟩ ::
⟨(some 64), none, (.op (.load1 (.t 63)))⟩ ::
⟨(some 65), none, (.op (.faddr 12 (.t 3)))⟩ ::
⟨(some 66), none, (.op (.faddr 1 (.t 65)))⟩ ::
⟨(some 67), none, (.op (.load1 (.t 66)))⟩ ::
⟨(some 68), none, (.call (.c (Value.func (.func 43) #[] #[])) [(.t 61), (.t 64), (.t 67)])⟩ ::
⟨(some 69), none, (.op (.faddr 5 (.t 5)))⟩ ::
⟨(some 70), none, (.op (.load1 (.t 69)))⟩ ::
⟨(some 71), none, (.op (.faddr 14 (.t 3)))⟩ ::
⟨(some 72), none, (.op (.faddr 0 (.t 71)))⟩ ::
⟨(some 73), none, (.op (.load1 (.t 72)))⟩ ::
⟨(some 74), none, (.op (.faddr 14 (.t 3)))⟩ ::
⟨(some 75), none, (.op (.faddr 1 (.t 74)))⟩ ::
⟨(some 76), none, (.op (.load1 (.t 75)))⟩ ::
⟨(some 77), none, (.call (.c (Value.func (.func 43) #[] #[])) [(.t 70), (.t 73), (.t 76)])⟩ ::
⟨(some 78), none, (.op (.bslice [Value.int .i64 0, Value.int .i64 0, Value.int .i64 0, Value.int .i64 0, Value.int .i64 0, Value.int .i64 0, Value.int .i64 0, Value.int .i64 0, Value.int .i64 0, Value.int .i64 0, Value.int .i64 0, Value.int .i64 0, Value.int .i64 0, Value.int .i64 0, Value.int .i64 0, Value.int .i64 0, Value.int .i64 0, Value.int .i64 0, Value.int .i64 0, Value.int .i64 0, Value.int .i64 0, Value.int .i64 0, Value.int .i64 0, Value.int .i64 0] [(0, 4, (.t 32)), (4, 4, (.t 41)), (8, 4, (.t 50)), (12, 4, (.t 59)), (16, 4, (.t 68)), (20, 4, (.t 77))] 6 77))⟩ ::
⟨(some 79), none, (.call (.c (Value.func (.func 42) #[] #[])) [(.t 78)])⟩ ::
⟨(some 80), none, (.call (.c (Value.func (.func 41) #[] #[])) [(.t 79)])⟩ ::
⟨(some 81), none, (.op (.not (.t 80)))⟩ :: []) []) (.cond (.t 81) (.seq (.reg (
    ⟨(some 6), none, (.op (.mv (.c (Value.int .i64 0))))⟩ ::
⟨(some 7), none, (.op (.mv (.c (Value.int .i64 3))))⟩ :: [])) .ret) .skip)) (.seq (.dreg (
    ⟨(some 82), none, (.op (.loadn 16 (.t 3)))⟩ ::
⟨(some 83), none, (.op (.build [Value.int .i64 0, Value.int .i64 0, Value.int .i64 0, Value.int .i64 0, Value.int .i64 0, Value.int .i64 0, Value.int .i64 0, Value.int .i64 0, Value.int .i64 0, Value.int .i64 0, Value.int .i64 0, Value.int .i64 0, Value.int .i64 0, Value.int .i64 0, Value.int .i64 0, Value.int .i64 0] [(0, 16, (.t 82))]))⟩ ::
⟨(some 84), none, (.op (.loadn 2 (.t 4)))⟩ ::
⟨(some 85), none, (.op (.build [Value.slice none 0 0, Value.slice none 0 0] [(0, 2, (.t 84))]))⟩ ::
⟨(some 10), none, (.op (.alloc [Value.int .i64 0, Value.int .i64 0, Value.int .i64 0, Value.int .i64 0, Value.int .i64 0, Value.int .i64 0, Value.int .i64 0, Value.int .i64 0, Value.int .i64 0, Value.int .i64 0, Value.int .i64 0, Value.int .i64 0, Value.int .i64 0, Value.int .i64 0, Value.int .i64 0, Value.int .i64 0] 82))⟩ ::
⟨(some 11), none, (.op (.alloc [Value.slice none 0 0, Value.slice none 0 0] 67))⟩ ::
⟨none, none, (.op (.store 16 (.t 10) (.t 83)))⟩ ::
⟨none, none, (.op (.store 2 (.t 11) (.t 85)))⟩ :: []) [((.t 4), (.t 10))]) (.seq (.dreg (
    ⟨(some 86), none, (.op (.loadn 16 (.t 10)))⟩ ::
⟨(some 87), none, (.op (.faddr 1 (.t 5)))⟩ ::
⟨(some 88), none, (.op (.load1 (.t 87)))⟩ ::
⟨(some 89), none, (.call (.c (Value.func (.func 47) #[] #[])) [(.t 86), (.t 88)])⟩ ::
⟨(some 90), none, (.op (.loadn 16 (.t 10)))⟩ ::
⟨(some 91), none, (.op (.faddr 2 (.t 5)))⟩ ::
⟨(some 92), none, (.op (.load1 (.t 91)))⟩ ::
⟨(some 93), none, (.call (.c (Value.func (.func 48) #[] #[])) [(.t 90), (.t 92)])⟩ ::
⟨(some 12), none, (.op (.mv (.t 89)))⟩ ::
⟨(some 13), none, (.op (.mv (.t 93)))⟩ :: []) []) (.seq (.seq (.reg (
    ⟨(some 94), none, (.op (.loadn 2 (.t 11)))⟩ ::
⟨(some 95), none, (.op (.mv (.t 12)))⟩ ::
⟨(some 96), none, (.op (.mv (.t 13)))⟩ ::
⟨(some 97), none, (.op (.mnmx false (.t 95) (.t 96)))⟩ ::
⟨(some 98), none, (.op (.mv (.t 12)))⟩ ::
⟨(some 99), none, (.op (.mv (.t 13)))⟩ ::
⟨(some 100), none, (.op (.mnmx true (.t 98) (.t 99)))⟩ ::
⟨(some 101), none, (.op (.build [Value.int .i64 0, Value.int .i64 0] [(0, 1, (.t 97)), (1, 1, (.t 100))]))⟩ ::
⟨(some 102), none, (.call (.c (Value.func (.func 38) #[] #[])) [(.t 94), (.t 101)])⟩ ::
⟨(some 103), none, (.op (.not (.t 102)))⟩ :: [])) (.cond (.t 103) (.seq (.reg (
    ⟨(some 6), none, (.op (.mv (.c (Value.int .i64 0))))⟩ ::
⟨(some 7), none, (.op (.mv (.c (Value.int .i64 19))))⟩ :: [])) .ret) .skip)) (.seq (.reg (
    ⟨(some 104), none, (.op (.loadn 16 (.t 10)))⟩ ::
⟨(some 105), none, (.op (.loadn 2 (.t 11)))⟩ ::
⟨(some 106), none, (.op (.loadn 6 (.t 5)))⟩ ::
⟨(some 107), none, (.call (.c (Value.func (.func 49) #[] #[])) [(.t 104), (.t 105), (.t 106)])⟩ ::
⟨(some 6), none, (.op (.mv (.t 107)))⟩ ::
⟨(some 7), none, (.op (.mv (.c (Value.int .i64 0))))⟩ :: [])) .ret))))))))
def r21 : List ResultVar := [.tmp 6, .tmp 7]
set_option maxRecDepth 1000000 in
set_option maxHeartbeats 4000000 in
theorem fun21 : Fun Try.prog 21 108 3 a21 r21 :=
  ⟨rfl, Try.f21, _, rfl, rfl, rfl, by decide, rfl, rfl, rfl⟩
/-- tumblehome/tumblehomeref04.Ship -/
noncomputable def a22 : ACode := (.seq (.reg (
    ⟨(some 3), none, (.op (.box (.t 0) 35))⟩ ::
⟨(some 4), none, (.op (.box (.t 1) 24))⟩ ::
⟨(some 5), none, (.op (.box (.t 2) 37))⟩ ::
⟨(some 6), none, (.op (.mv (.c (Value.int .i64 0))))⟩ ::
⟨(some 7), none, (.op (.mv (.c (Value.int .i64 0))))⟩ :: [])) (.seq (.seq (.reg (
    ⟨(some 10), none, (.op (.loadn 16 (.t 3)))⟩ ::
⟨(some 11), none, (.call (.c (Value.func (.func 24) #[] #[])) [(.t 10)])⟩ ::
⟨(some 12), none, (.op (.int .neq (.t 11) (.c (Value.int .i64 0))))⟩ :: [])) (.cond (.t 12) (.seq (.reg (
    ⟨(some 13), none, (.op (.loadn 16 (.t 3)))⟩ ::
⟨(some 14), none, (.call (.c (Value.func (.func 24) #[] #[])) [(.t 13)])⟩ ::
⟨(some 6), none, (.op (.mv (.c (Value.int .i64 0))))⟩ ::
⟨(some 7), none, (.op (.mv (.t 14)))⟩ :: [])) .ret) .skip)) (.seq (.seq (.reg (
    ⟨(some 15), none, (.op (.loadn 2 (.t 4)))⟩ ::
⟨(some 16), none, (.call (.c (Value.func (.func 18) #[] #[])) [(.t 15)])⟩ ::
⟨(some 17), none, (.op (.int .neq (.t 16) (.c (Value.int .i64 0))))⟩ :: [])) (.cond (.t 17) (.seq (.reg (
    ⟨(some 18), none, (.op (.loadn 2 (.t 4)))⟩ ::
⟨(some 19), none, (.call (.c (Value.func (.func 18) #[] #[])) [(.t 18)])⟩ ::
⟨(some 6), none, (.op (.mv (.c (Value.int .i64 0))))⟩ ::
⟨(some 7), none, (.op (.mv (.t 19)))⟩ :: [])) .ret) .skip)) (.seq (.seq (.reg (
    ⟨(some 20), none, (.op (.loadn 16 (.t 3)))⟩ ::
⟨(some 21), none, (.op (.loadn 6 (.t 5)))⟩ ::
⟨(some 22), none, (.call (.c (Value.func (.func 50) #[] #[])) [(.t 20), (.t 21)])⟩ ::
⟨(some 23), none, (.op (.not (.t 22)))⟩ :: [])) (.cond (.t 23) (.seq (.reg (
    ⟨(some 6), none, (.op (.mv (.c (Value.int .i64 0))))⟩ ::
⟨(some 7), none, (.op (.mv (.c (Value.int .i64 3))))⟩ :: [])) .ret) .skip)) (.seq (.reg (
    ⟨(some 25), none, (.op (.loadn 16 (.t 3)))⟩ ::
⟨(some 26), none, (.op (.loadn 2 (.t 4)))⟩ ::
⟨(some 27), none, (.op (.loadn 6 (.t 5)))⟩ ::
⟨(some 28), none, (.call (.c (Value.func (.func 51) #[] #[])) [(.t 25), (.t 26), (.t 27)])⟩ ::
⟨(some 24), none, (.op (.mv (.t 28)))⟩ ::
⟨(some 29), none, (.op (.extract (.t 24) 0))⟩ ::
⟨(some 30), none, (.op (.extract (.t 24) 1))⟩ ::
⟨(some 8), none, (.op (.mv (.t 29)))⟩ ::
⟨(some 9), none, (.op (.mv (.t 30)))⟩ :: [])) (.seq (.seq (.reg (
    ⟨(some 31), none, (.op (.mv (.t 9)))⟩ ::
⟨(some 32), none, (.op (.not (.t 31)))⟩ :: [])) (.cond (.t 32) (.seq (.reg (
    ⟨(some 6), none, (.op (.mv (.c (Value.int .i64 0))))⟩ ::
⟨(some 7), none, (.op (.mv (.c (Value.int .i64 19))))⟩ :: [])) .ret) .skip)) (.seq (.reg (
    ⟨(some 33), none, (.op (.mv (.t 8)))⟩ ::
⟨(some 6), none, (.op (.mv (.t 33)))⟩ ::
⟨(some 7), none, (.op (.mv (.c (Value.int .i64 0))))⟩ :: [])) .ret)))))))
def r22 : List ResultVar := [.tmp 6, .tmp 7]
set_option maxRecDepth 1000000 in
set_option maxHeartbeats 4000000 in
theorem fun22 : Fun Try.prog 22 34 3 a22 r22 :=
  ⟨rfl, Try.f22, _, rfl, rfl, rfl, by decide, rfl, rfl, rfl⟩
/-- tumblehome/drag.CheckTest -/
noncomputable def a23 : ACode := (.seq (.reg (
    ⟨(some 1), none, (.op (.box (.t 0) 35))⟩ ::
⟨(some 2), none, (.op (.mv (.c (Value.int .i64 0))))⟩ :: [])) (.seq (.seq (.dreg (
    ⟨(some 3), none, (.op (.faddr 0 (.t 1)))⟩ ::
⟨(some 4), none, (.op (.load1 (.t 3)))⟩ ::
⟨(some 5), none, (.call (.c (Value.func (.func 43) #[] #[])) [(.t 4), (.c (Value.int .i64 1)), (.c (Value.int .i64 10000))])⟩ ::
⟨(some 6), none, (.op (.faddr 1 (.t 1)))⟩ ::
⟨(some 7), none, (.op (.load1 (.t 6)))⟩ ::
⟨(some 8), none, (.call (.c (Value.func (.func 43) #[] #[])) [(.t 7), (.c (Value.int .i64 1)), (.c (Value.int .i64 10000))])⟩ ::
⟨(some 9), none, (.op (.faddr 2 (.t 1)))⟩ ::
⟨(some 10), none, (.op (.load1 (.t 9)))⟩ ::
⟨(some 11), none, (.call (.c (Value.func (.func 43) #[] #[])) [(.t 10), (.c (Value.int .i64 1)), (.c (Value.int .i64 1000000))])⟩ ::
⟨(some 12), none, (.op (.faddr 3 (.t 1)))⟩ ::
⟨(some 13), none, (.op (.load1 (.t 12)))⟩ ::
⟨(some 14), none, (.call (.c (Value.func (.func 43) #[] #[])) [(.t 13), (.c (Value.int .i64 1)), (.c (Value.int .i64 10))])⟩ ::
⟨(some 15), none, (.op (.faddr 4 (.t 1)))⟩ ::
⟨(some 16), none, (.op (.loadn 2 (.t 15)))⟩ ::
⟨(some 17), none, (.op (.build [Value.int .i64 0, Value.int .i64 0, Value.int .i64 0, Value.int .i64 0] [(0, 2, (.t 16)), (2, 1, (.c (Value.int .i64 0))), (3, 1, (.c (Value.int .i64 100000000)))]))⟩ ::
⟨(some 18), none, (.op (.faddr 6 (.t 1)))⟩ ::
⟨(some 19), none, (.op (.loadn 2 (.t 18)))⟩ ::
⟨(some 20), none, (.op (.build [Value.int .i64 0, Value.int .i64 0, Value.int .i64 0, Value.int .i64 0] [(0, 2, (.t 19)), (2, 1, (.c (Value.int .i64 500))), (3, 1, (.c (Value.int .i64 3000)))]))⟩ ::
⟨(some 21), none, (.op (.faddr 8 (.t 1)))⟩ ::
⟨(some 22), none, (.op (.loadn 2 (.t 21)))⟩ ::
⟨(some 23), none, (.op (.build [Value.int .i64 0, Value.int .i64 0, Value.int .i64 0, Value.int .i64 0] [(0, 2, (.t 22)), (2, 1, (.c (Value.int .i64 500))), (3, 1, (.c (Value.int .i64 3000)))]))⟩ ::
⟨(some 24), none, (.op (.faddr 10 (.t 1)))⟩ ::
⟨(some 25), none, (.op (.loadn 2 (.t 24)))⟩ ::
⟨(some 26), none, (.op (.build [Value.int .i64 0, Value.int .i64 0, Value.int .i64 0, Value.int .i64 0] [(0, 2, (.t 25)), (2, 1, (.c (Value.int .i64 0))), (3, 1, (.c (Value.int .i64 1000)))]))⟩ ::
⟨(some 27), none, (.op (.faddr 12 (.t 1)))⟩ ::
⟨(some 28), none, (.op (.loadn 2 (.t 27)))⟩ ::
⟨(some 29), none, (.op (.build [Value.int .i64 0, Value.int .i64 0, Value.int .i64 0, Value.int .i64 0] [(0, 2, (.t 28)), (2, 1, (.c (Value.int .i64 0))), (3, 1, (.c (Value.int .i64 200)))]))⟩ ::
⟨(some 30), none, (.op (.faddr 14 (.t 1)))⟩ ::
⟨(some 31), none, (.op (.loadn 2 (.t 30)))⟩ ::
⟨(some 32), none, (.op (.build [Value.int .i64 0, Value.int .i64 0, Value.int .i64 0, Value.int .i64 0] [(0, 2, (.t 31)), (2, 1, (.c (Value.int .i64 0))), (3, 1, (.c (Value.int .i64 2000)))]))⟩ ::
⟨(some 33), none, (.op (.bslice [Value.int .i64 0, Value.int .i64 0, Value.int .i64 0, Value.int .i64 0, Value.int .i64 0, Value.int .i64 0, Value.int .i64 0, Value.int .i64 0, Value.int .i64 0, Value.int .i64 0, Value.int .i64 0, Value.int .i64 0, Value.int .i64 0, Value.int .i64 0, Value.int .i64 0, Value.int .i64 0, Value.int .i64 0, Value.int .i64 0, Value.int .i64 0, Value.int .i64 0, Value.int .i64 0, Value.int .i64 0, Value.int .i64 0, Value.int .i64 0, Value.int .i64 0, Value.int .i64 0, Value.int .i64 0, Value.int .i64 0, Value.int .i64 0, Value.int .i64 0, Value.int .i64 0, Value.int .i64 0, Value.int .i64 0, Value.int .i64 0, Value.int .i64 0, Value.int .i64 0, Value.int .i64 0, Value.int .i64 0, Value.int .i64 0, Value.int .i64 0] [(0, 4, (.t 5)), (4, 4, (.t 8)), (8, 4, (.t 11)), (12, 4, (.t 14)), (16, 4, (.t 17)), (20, 4, (.t 20)), (24, 4, (.t 23)), (28, 4, (.t 26)), (32, 4, (.t 29)), (36, 4, (.t 32))] 10 77))⟩ ::
⟨(some 34), none, (.call (.c (Value.func (.func 42) #[] #[])) [(.t 33)])⟩ ::
⟨(some 35), none, (.call (.c (Value.func (.func 41) #[] #[])) [(.t 34)])⟩ ::
⟨(some 36), none, (.op (.not (.t 35)))⟩ :: []) []) (.cond (.t 36) (.seq (.reg (
    ⟨(some 2), none, (.op (.mv (.c (Value.int .i64 2))))⟩ :: [])) .ret) .skip)) (.seq (.reg (
    ⟨(some 2), none, (.op (.mv (.c (Value.int .i64 0))))⟩ :: [])) .ret)))
def r23 : List ResultVar := [.tmp 2]
set_option maxRecDepth 1000000 in
set_option maxHeartbeats 4000000 in
theorem fun23 : Fun Try.prog 23 37 1 a23 r23 :=
  ⟨rfl, Try.f23, _, rfl, rfl, rfl, by decide, rfl, rfl, rfl⟩
/-- tumblehome/tumblehomeref04.CheckTest -/
noncomputable def a24 : ACode := (.seq (.reg (
    ⟨(some 1), none, (.op (.box (.t 0) 35))⟩ ::
⟨(some 2), none, (.op (.mv (.c (Value.int .i64 0))))⟩ :: [])) (.seq (.seq (.reg (
    ⟨(some 3), none, (.op (.faddr 0 (.t 1)))⟩ ::
⟨(some 4), none, (.op (.load1 (.t 3)))⟩ ::
⟨(some 5), none, (.call (.c (Value.func (.func 44) #[] #[])) [(.t 4), (.c (Value.int .i64 1)), (.c (Value.int .i64 10000))])⟩ ::
⟨(some 6), none, (.op (.not (.t 5)))⟩ ::
⟨(some 7), none, (.op (.mv (.t 6)))⟩ ::
⟨(some 8), (some (7, false)), (.op (.faddr 1 (.t 1)))⟩ ::
⟨(some 9), (some (7, false)), (.op (.load1 (.t 8)))⟩ ::
⟨(some 10), (some (7, false)), (.call (.c (Value.func (.func 44) #[] #[])) [(.t 9), (.c (Value.int .i64 1)), (.c (Value.int .i64 10000))])⟩ ::
⟨(some 11), (some (7, false)), (.op (.not (.t 10)))⟩ ::
⟨(some 12), none, (.op (.pick (.t 7) (.c (Value.bool true)) (.t 11)))⟩ ::
⟨(some 13), none, (.op (.mv (.t 12)))⟩ ::
⟨(some 14), (some (13, false)), (.op (.faddr 2 (.t 1)))⟩ ::
⟨(some 15), (some (13, false)), (.op (.load1 (.t 14)))⟩ ::
⟨(some 16), (some (13, false)), (.call (.c (Value.func (.func 44) #[] #[])) [(.t 15), (.c (Value.int .i64 1)), (.c (Value.int .i64 1000000))])⟩ ::
⟨(some 17), (some (13, false)), (.op (.not (.t 16)))⟩ ::
⟨(some 18), none, (.op (.pick (.t 13) (.c (Value.bool true)) (.t 17)))⟩ ::
⟨(some 19), none, (.op (.mv (.t 18)))⟩ ::
⟨(some 20), (some (19, false)), (.op (.faddr 3 (.t 1)))⟩ ::
⟨(some 21), (some (19, false)), (.op (.load1 (.t 20)))⟩ ::
⟨(some 22), (some (19, false)), (.call (.c (Value.func (.func 44) #[] #[])) [(.t 21), (.c (Value.int .i64 1)), (.c (Value.int .i64 10))])⟩ ::
⟨(some 23), (some (19, false)), (.op (.not (.t 22)))⟩ ::
⟨(some 24), none, (.op (.pick (.t 19) (.c (Value.bool true)) (.t 23)))⟩ ::
⟨(some 25), none, (.op (.mv (.t 24)))⟩ ::
⟨(some 26), (some (25, false)), (.op (.faddr 4 (.t 1)))⟩ ::
⟨(some 27), (some (25, false)), (.op (.loadn 2 (.t 26)))⟩ ::
⟨(some 28), (some (25, false)), (.call (.c (Value.func (.func 52) #[] #[])) [(.t 27), (.c (Value.int .i64 0)), (.c (Value.int .i64 100000000))])⟩ ::
⟨(some 29), (some (25, false)), (.op (.not (.t 28)))⟩ ::
⟨(some 30), none, (.op (.pick (.t 25) (.c (Value.bool true)) (.t 29)))⟩ ::
⟨(some 31), none, (.op (.mv (.t 30)))⟩ ::
⟨(some 32), (some (31, false)), (.op (.faddr 6 (.t 1)))⟩ ::
⟨(some 33), (some (31, false)), (.op (.loadn 2 (.t 32)))⟩ ::
⟨(some 34), (some (31, false)), (.call (.c (Value.func (.func 52) #[] #[])) [(.t 33), (.c (Value.int .i64 500)), (.c (Value.int .i64 3000))])⟩ ::
⟨(some 35), (some (31, false)), (.op (.not (.t 34)))⟩ ::
⟨(some 36), none, (.op (.pick (.t 31) (.c (Value.bool true)) (.t 35)))⟩ ::
⟨(some 37), none, (.op (.mv (.t 36)))⟩ ::
⟨(some 38), (some (37, false)), (.op (.faddr 8 (.t 1)))⟩ ::
⟨(some 39), (some (37, false)), (.op (.loadn 2 (.t 38)))⟩ ::
⟨(some 40), (some (37, false)), (.call (.c (Value.func (.func 52) #[] #[])) [(.t 39), (.c (Value.int .i64 500)), (.c (Value.int .i64 3000))])⟩ ::
⟨(some 41), (some (37, false)), (.op (.not (.t 40)))⟩ ::
⟨(some 42), none, (.op (.pick (.t 37) (.c (Value.bool true)) (.t 41)))⟩ ::
⟨(some 43), none, (.op (.mv (.t 42)))⟩ ::
⟨(some 44), (some (43, false)), (.op (.faddr 10 (.t 1)))⟩ ::
⟨(some 45), (some (43, false)), (.op (.loadn 2 (.t 44)))⟩ ::
⟨(some 46), (some (43, false)), (.call (.c (Value.func (.func 52) #[] #[])) [(.t 45), (.c (Value.int .i64 0)), (.c (Value.int .i64 1000))])⟩ ::
⟨(some 47), (some (43, false)), (.op (.not (.t 46)))⟩ ::
⟨(some 48), none, (.op (.pick (.t 43) (.c (Value.bool true)) (.t 47)))⟩ ::
⟨(some 49), none, (.op (.mv (.t 48)))⟩ ::
⟨(some 50), (some (49, false)), (.op (.faddr 12 (.t 1)))⟩ ::
⟨(some 51), (some (49, false)), (.op (.loadn 2 (.t 50)))⟩ ::
⟨(some 52), (some (49, false)), (.call (.c (Value.func (.func 52) #[] #[])) [(.t 51), (.c (Value.int .i64 0)), (.c (Value.int .i64 200))])⟩ ::
⟨(some 53), (some (49, false)), (.op (.not (.t 52)))⟩ ::
⟨(some 54), none, (.op (.pick (.t 49) (.c (Value.bool true)) (.t 53)))⟩ ::
⟨(some 55), none, (.op (.mv (.t 54)))⟩ ::
⟨(some 56), (some (55, false)), (.op (.faddr 14 (.t 1)))⟩ ::
⟨(some 57), (some (55, false)), (.op (.loadn 2 (.t 56)))⟩ ::
⟨(some 58), (some (55, false)), (.call (.c (Value.func (.func 52) #[] #[])) [(.t 57), (.c (Value.int .i64 0)), (.c (Value.int .i64 2000))])⟩ ::
⟨(some 59), (some (55, false)), (.op (.not (.t 58)))⟩ ::
⟨(some 60), none, (.op (.pick (.t 55) (.c (Value.bool true)) (.t 59)))⟩ :: [])) (.cond (.t 60) (.seq (.reg (
    ⟨(some 2), none, (.op (.mv (.c (Value.int .i64 2))))⟩ :: [])) .ret) .skip)) (.seq (.reg (
    ⟨(some 2), none, (.op (.mv (.c (Value.int .i64 0))))⟩ :: [])) .ret)))
def r24 : List ResultVar := [.tmp 2]
set_option maxRecDepth 1000000 in
set_option maxHeartbeats 4000000 in
theorem fun24 : Fun Try.prog 24 61 1 a24 r24 :=
  ⟨rfl, Try.f24, _, rfl, rfl, rfl, by decide, rfl, rfl, rfl⟩
/-- tumblehome/tumblehomelaw04.greater -/
noncomputable def a25 : ACode := (.seq (.reg (
    ⟨(some 2), none, (.op (.mv (.c (Value.bool false))))⟩ :: [])) (.seq (.seq (.reg (
    ⟨(some 4), none, (.op (.mv (.t 0)))⟩ ::
⟨(some 5), none, (.op (.len (.t 4)))⟩ ::
⟨(some 6), none, (.op (.int .gtr (.t 5) (.c (Value.int .i64 8))))⟩ :: [])) (.cond (.t 6) (.seq (.reg (
    ⟨(some 2), none, (.op (.mv (.c (Value.bool true))))⟩ :: [])) .ret) .skip)) (.seq (.seq (.reg (
    ⟨(some 3), none, (.op (.mv (.c (Value.int .i64 0))))⟩ :: [])) (.block 0 (.loop (.seq (.seq (.reg (
    ⟨(some 7), none, (.op (.mv (.t 3)))⟩ ::
⟨(some 8), none, (.op (.mv (.t 0)))⟩ ::
⟨(some 9), none, (.op (.len (.t 8)))⟩ ::
⟨(some 10), none, (.op (.int .lss (.t 7) (.t 9)))⟩ :: [])) (.cond (.t 10) .skip (.exit 0))) (.seq (.block 1 (.seq (.reg (
    ⟨(some 13), none, (.op (.mv (.t 0)))⟩ ::
⟨(some 14), none, (.op (.mv (.t 3)))⟩ ::
⟨(some 15), none, (.op (.ixsl 2 (.t 13) (.t 14)))⟩ ::
⟨(some 16), none, (.op (.loadn 2 (.t 15)))⟩ ::
⟨(some 17), none, (.call (.c (Value.func (.func 13) #[] #[])) [(.t 16)])⟩ :: [])) (.cond (.t 17) (.seq (.reg (
    ⟨(some 2), none, (.op (.mv (.c (Value.bool true))))⟩ :: [])) .ret) .skip))) (.reg (
    ⟨(some 11), none, (.op (.mv (.t 3)))⟩ ::
⟨(some 12), none, (.op (.int .add (.t 11) (.c (Value.int .i64 1))))⟩ ::
⟨(some 3), none, (.op (.mv (.t 12)))⟩ :: []))))))) (.seq (.reg (
    ⟨(some 2), none, (.op (.mv (.c (Value.bool false))))⟩ :: [])) .ret))))
def r25 : List ResultVar := [.tmp 2]
set_option maxRecDepth 1000000 in
set_option maxHeartbeats 4000000 in
theorem fun25 : Fun Try.prog 25 18 1 a25 r25 :=
  ⟨rfl, Try.f25, _, rfl, rfl, rfl, by decide, rfl, rfl, rfl⟩
/-- tumblehome/tumblehomelaw04.slow -/
noncomputable def a26 : ACode := (.seq (.reg (
    ⟨(some 1), none, (.op (.box (.t 0) 35))⟩ ::
⟨(some 2), none, (.op (.mv (.c (Value.bool false))))⟩ :: [])) (.seq (.reg (
    ⟨(some 3), none, (.op (.loadn 16 (.t 1)))⟩ ::
⟨(some 4), none, (.call (.c (Value.func (.func 24) #[] #[])) [(.t 3)])⟩ ::
⟨(some 5), none, (.op (.int .eql (.t 4) (.c (Value.int .i64 0))))⟩ ::
⟨(some 6), none, (.op (.mv (.t 5)))⟩ ::
⟨(some 7), (some (6, true)), (.op (.faddr 10 (.t 1)))⟩ ::
⟨(some 8), (some (6, true)), (.op (.faddr 1 (.t 7)))⟩ ::
⟨(some 9), (some (6, true)), (.op (.load1 (.t 8)))⟩ ::
⟨(some 10), (some (6, true)), (.op (.faddr 10 (.t 1)))⟩ ::
⟨(some 11), (some (6, true)), (.op (.faddr 0 (.t 10)))⟩ ::
⟨(some 12), (some (6, true)), (.op (.load1 (.t 11)))⟩ ::
⟨(some 13), (some (6, true)), (.op (.int .sub (.t 9) (.t 12)))⟩ ::
⟨(some 14), (some (6, true)), (.op (.int .gtr (.t 13) (.c (Value.int .i64 40))))⟩ ::
⟨(some 15), none, (.op (.pick (.t 6) (.t 14) (.c (Value.bool false))))⟩ ::
⟨(some 2), none, (.op (.mv (.t 15)))⟩ :: [])) .ret))
def r26 : List ResultVar := [.tmp 2]
set_option maxRecDepth 1000000 in
set_option maxHeartbeats 4000000 in
theorem fun26 : Fun Try.prog 26 16 1 a26 r26 :=
  ⟨rfl, Try.f26, _, rfl, rfl, rfl, by decide, rfl, rfl, rfl⟩
/-- tumblehome/drag.Holds -/
noncomputable def a27 : ACode := (.seq (.reg (
    ⟨(some 6), none, (.op (.mv (.c (Value.int .i64 0))))⟩ ::
⟨(some 7), none, (.op (.mv (.c (Value.int .i64 0))))⟩ ::
⟨(some 8), none, (.op (.mv (.c (Value.int .i64 0))))⟩ :: [])) (.seq (.seq (.reg (
    ⟨(some 20), none, (.op (.mv (.t 0)))⟩ ::
⟨(some 21), none, (.op (.len (.t 20)))⟩ ::
⟨(some 22), none, (.op (.int .gtr (.t 21) (.c (Value.int .i64 20))))⟩ :: [])) (.cond (.t 22) (.seq (.reg (
    ⟨(some 6), none, (.op (.mv (.c (Value.int .i64 0))))⟩ ::
⟨(some 7), none, (.op (.mv (.c (Value.int .i64 0))))⟩ ::
⟨(some 8), none, (.op (.mv (.c (Value.int .i64 6))))⟩ :: [])) .ret) .skip)) (.seq (.seq (.reg (
    ⟨(some 23), none, (.op (.mv (.t 0)))⟩ ::
⟨(some 24), none, (.op (.len (.t 23)))⟩ ::
⟨(some 25), none, (.op (.mv (.c (Value.int .i64 0))))⟩ :: [])) (.block 0 (.loop (.seq (.reg (
    ⟨(some 26), none, (.op (.int .lss (.t 25) (.t 24)))⟩ :: [])) (.seq (.cond (.t 26) .skip (.exit 0)) (.seq (.block 1 (.seq (.reg (
    ⟨(some 27), none, (.op (.ixsl 16 (.t 23) (.t 25)))⟩ ::
⟨(some 28), none, (.op (.loadn 16 (.t 27)))⟩ ::
⟨(some 10), none, (.op (.alloc [Value.int .i64 0, Value.int .i64 0, Value.int .i64 0, Value.int .i64 0, Value.int .i64 0, Value.int .i64 0, Value.int .i64 0, Value.int .i64 0, Value.int .i64 0, Value.int .i64 0, Value.int .i64 0, Value.int .i64 0, Value.int .i64 0, Value.int .i64 0, Value.int .i64 0, Value.int .i64 0] 35))⟩ ::
⟨none, none, (.op (.store 16 (.t 10) (.t 28)))⟩ :: [])) (.seq (.reg (
    ⟨(some 29), none, (.op (.loadn 16 (.t 10)))⟩ ::
⟨(some 30), none, (.call (.c (Value.func (.func 23) #[] #[])) [(.t 29)])⟩ ::
⟨(some 11), none, (.op (.mv (.t 30)))⟩ :: [])) (.seq (.reg (
    ⟨(some 31), none, (.op (.mv (.t 11)))⟩ ::
⟨(some 32), none, (.op (.int .neq (.t 31) (.c (Value.int .i64 0))))⟩ :: [])) (.cond (.t 32) (.seq (.reg (
    ⟨(some 33), none, (.op (.mv (.t 11)))⟩ ::
⟨(some 6), none, (.op (.mv (.c (Value.int .i64 0))))⟩ ::
⟨(some 7), none, (.op (.mv (.c (Value.int .i64 0))))⟩ ::
⟨(some 8), none, (.op (.mv (.t 33)))⟩ :: [])) .ret) .skip))))) (.reg (
    ⟨(some 34), none, (.op (.int .add (.t 25) (.c (Value.int .i64 1))))⟩ ::
⟨(some 25), none, (.op (.mv (.t 34)))⟩ :: [])))))))) (.seq (.seq (.reg (
    ⟨(some 35), none, (.op (.mv (.t 1)))⟩ ::
⟨(some 36), none, (.call (.c (Value.func (.func 53) #[] #[])) [(.t 35)])⟩ ::
⟨(some 12), none, (.op (.mv (.t 36)))⟩ :: [])) (.seq (.reg (
    ⟨(some 37), none, (.op (.mv (.t 12)))⟩ ::
⟨(some 38), none, (.op (.int .neq (.t 37) (.c (Value.int .i64 0))))⟩ :: [])) (.cond (.t 38) (.seq (.reg (
    ⟨(some 39), none, (.op (.mv (.t 12)))⟩ ::
⟨(some 6), none, (.op (.mv (.c (Value.int .i64 0))))⟩ ::
⟨(some 7), none, (.op (.mv (.c (Value.int .i64 0))))⟩ ::
⟨(some 8), none, (.op (.mv (.t 39)))⟩ :: [])) .ret) .skip))) (.seq (.seq (.reg (
    ⟨(some 40), none, (.op (.mv (.t 2)))⟩ ::
⟨(some 41), none, (.op (.len (.t 40)))⟩ ::
⟨(some 42), none, (.op (.mv (.t 0)))⟩ ::
⟨(some 43), none, (.op (.len (.t 42)))⟩ ::
⟨(some 44), none, (.op (.int .neq (.t 41) (.t 43)))⟩ :: [])) (.cond (.t 44) (.seq (.reg (
    ⟨(some 6), none, (.op (.mv (.c (Value.int .i64 0))))⟩ ::
⟨(some 7), none, (.op (.mv (.c (Value.int .i64 0))))⟩ ::
⟨(some 8), none, (.op (.mv (.c (Value.int .i64 15))))⟩ :: [])) .ret) .skip)) (.seq (.reg (
    ⟨(some 45), none, (.op (.mv (.t 0)))⟩ ::
⟨(some 46), none, (.op (.len (.t 45)))⟩ ::
⟨(some 47), none, (.op (.mkslice [Value.int .i64 0, Value.int .i64 0] 16 33 (.c (Value.int .i64 0)) (.t 46)))⟩ ::
⟨(some 13), none, (.op (.alloc [Value.slice none 0 0] 91))⟩ ::
⟨none, none, (.op (.store 1 (.t 13) (.t 47)))⟩ :: [])) (.seq (.seq (.reg (
    ⟨(some 48), none, (.op (.mv (.t 0)))⟩ ::
⟨(some 49), none, (.op (.len (.t 48)))⟩ ::
⟨(some 50), none, (.op (.mv (.c (Value.int .i64 0))))⟩ :: [])) (.block 2 (.loop (.seq (.reg (
    ⟨(some 51), none, (.op (.int .lss (.t 50) (.t 49)))⟩ :: [])) (.seq (.cond (.t 51) .skip (.exit 2)) (.seq (.block 3 (.seq (.reg (
    ⟨(some 52), none, (.op (.ixsl 16 (.t 48) (.t 50)))⟩ ::
⟨(some 53), none, (.op (.loadn 16 (.t 52)))⟩ ::
⟨(some 15), none, (.op (.alloc [Value.int .i64 0, Value.int .i64 0, Value.int .i64 0, Value.int .i64 0, Value.int .i64 0, Value.int .i64 0, Value.int .i64 0, Value.int .i64 0, Value.int .i64 0, Value.int .i64 0, Value.int .i64 0, Value.int .i64 0, Value.int .i64 0, Value.int .i64 0, Value.int .i64 0, Value.int .i64 0] 35))⟩ ::
⟨none, none, (.op (.store 16 (.t 15) (.t 53)))⟩ :: [])) (.seq (.reg (
    ⟨(some 55), none, (.op (.loadn 16 (.t 15)))⟩ ::
⟨(some 56), none, (.op (.mv (.t 1)))⟩ ::
⟨(some 57), none, (.call (.c (Value.func (.func 30) #[] #[])) [(.t 55), (.t 56)])⟩ ::
⟨(some 54), none, (.op (.mv (.t 57)))⟩ ::
⟨(some 58), none, (.op (.extract (.t 54) 0))⟩ ::
⟨(some 59), none, (.op (.extract (.t 54) 1))⟩ ::
⟨(some 16), none, (.op (.alloc [Value.int .i64 0, Value.int .i64 0] 33))⟩ ::
⟨none, none, (.op (.store 2 (.t 16) (.t 58)))⟩ ::
⟨(some 17), none, (.op (.mv (.t 59)))⟩ :: [])) (.seq (.seq (.reg (
    ⟨(some 60), none, (.op (.mv (.t 17)))⟩ ::
⟨(some 61), none, (.op (.int .neq (.t 60) (.c (Value.int .i64 0))))⟩ :: [])) (.cond (.t 61) (.seq (.reg (
    ⟨(some 62), none, (.op (.mv (.t 17)))⟩ ::
⟨(some 6), none, (.op (.mv (.c (Value.int .i64 0))))⟩ ::
⟨(some 7), none, (.op (.mv (.c (Value.int .i64 0))))⟩ ::
⟨(some 8), none, (.op (.mv (.t 62)))⟩ :: [])) .ret) .skip)) (.reg (
    ⟨(some 63), none, (.op (.load1 (.t 13)))⟩ ::
⟨(some 64), none, (.op (.loadn 2 (.t 16)))⟩ ::
⟨(some 65), none, (.op (.bslice [Value.int .i64 0, Value.int .i64 0] [(0, 2, (.t 64))] 1 33))⟩ ::
⟨(some 66), none, (.op (.append 33 2 16 (.t 63) (.t 65)))⟩ ::
⟨none, none, (.op (.store 1 (.t 13) (.t 66)))⟩ :: [])))))) (.reg (
    ⟨(some 67), none, (.op (.int .add (.t 50) (.c (Value.int .i64 1))))⟩ ::
⟨(some 50), none, (.op (.mv (.t 67)))⟩ :: [])))))))) (.seq (.reg (
    ⟨(some 68), none, (.op (.mv (.t 2)))⟩ ::
⟨(some 69), none, (.op (.len (.t 68)))⟩ ::
⟨(some 70), none, (.op (.mkslice [Value.int .i64 0] 8 2 (.t 69) (.t 69)))⟩ ::
⟨(some 18), none, (.op (.alloc [Value.slice none 0 0] 22))⟩ ::
⟨none, none, (.op (.store 1 (.t 18) (.t 70)))⟩ :: [])) (.seq (.reg (
    ⟨(some 71), none, (.op (.load1 (.t 18)))⟩ ::
⟨(some 72), none, (.op (.mv (.t 2)))⟩ ::
⟨(some 73), none, (.op (.copy 1 (.t 71) (.t 72)))⟩ :: [])) (.seq (.reg (
    ⟨(some 74), none, (.op (.mkfn (Fn.func 54) [] [(.t 13), (.t 18)]))⟩ ::
⟨(some 19), none, (.op (.mv (.t 74)))⟩ :: [])) (.seq (.reg (
    ⟨(some 75), none, (.op (.mv (.t 19)))⟩ ::
⟨(some 76), none, (.call (.t 75) [(.c (Value.func (.func 55) #[] #[]))])⟩ ::
⟨(some 77), none, (.op (.mv (.t 19)))⟩ ::
⟨(some 78), none, (.call (.t 77) [(.c (Value.func (.func 56) #[] #[]))])⟩ ::
⟨(some 6), none, (.op (.mv (.t 76)))⟩ ::
⟨(some 7), none, (.op (.mv (.t 78)))⟩ ::
⟨(some 8), none, (.op (.mv (.c (Value.int .i64 0))))⟩ :: [])) .ret)))))))))))
def r27 : List ResultVar := [.tmp 6, .tmp 7, .tmp 8]
set_option maxRecDepth 1000000 in
set_option maxHeartbeats 4000000 in
theorem fun27 : Fun Try.prog 27 79 3 a27 r27 :=
  ⟨rfl, Try.f27, _, rfl, rfl, rfl, by decide, rfl, rfl, rfl⟩
/-- tumblehome/tumblehomeref04.Holds -/
noncomputable def a28 : ACode := (.seq (.reg (
    ⟨(some 6), none, (.op (.mv (.c (Value.int .i64 0))))⟩ ::
⟨(some 7), none, (.op (.mv (.c (Value.int .i64 0))))⟩ ::
⟨(some 8), none, (.op (.mv (.c (Value.int .i64 0))))⟩ :: [])) (.seq (.seq (.reg (
    ⟨(some 15), none, (.op (.mv (.t 0)))⟩ ::
⟨(some 16), none, (.op (.len (.t 15)))⟩ ::
⟨(some 17), none, (.op (.int .gtr (.t 16) (.c (Value.int .i64 20))))⟩ :: [])) (.cond (.t 17) (.seq (.reg (
    ⟨(some 6), none, (.op (.mv (.c (Value.int .i64 0))))⟩ ::
⟨(some 7), none, (.op (.mv (.c (Value.int .i64 0))))⟩ ::
⟨(some 8), none, (.op (.mv (.c (Value.int .i64 6))))⟩ :: [])) .ret) .skip)) (.seq (.seq (.reg (
    ⟨(some 9), none, (.op (.mv (.c (Value.int .i64 0))))⟩ :: [])) (.block 0 (.loop (.seq (.seq (.reg (
    ⟨(some 18), none, (.op (.mv (.t 9)))⟩ ::
⟨(some 19), none, (.op (.mv (.t 0)))⟩ ::
⟨(some 20), none, (.op (.len (.t 19)))⟩ ::
⟨(some 21), none, (.op (.int .lss (.t 18) (.t 20)))⟩ :: [])) (.cond (.t 21) .skip (.exit 0))) (.seq (.block 1 (.seq (.reg (
    ⟨(some 24), none, (.op (.mv (.t 0)))⟩ ::
⟨(some 25), none, (.op (.mv (.t 9)))⟩ ::
⟨(some 26), none, (.op (.ixsl 16 (.t 24) (.t 25)))⟩ ::
⟨(some 27), none, (.op (.loadn 16 (.t 26)))⟩ ::
⟨(some 28), none, (.call (.c (Value.func (.func 24) #[] #[])) [(.t 27)])⟩ ::
⟨(some 29), none, (.op (.int .neq (.t 28) (.c (Value.int .i64 0))))⟩ :: [])) (.cond (.t 29) (.seq (.reg (
    ⟨(some 30), none, (.op (.mv (.t 0)))⟩ ::
⟨(some 31), none, (.op (.mv (.t 9)))⟩ ::
⟨(some 32), none, (.op (.ixsl 16 (.t 30) (.t 31)))⟩ ::
⟨(some 33), none, (.op (.loadn 16 (.t 32)))⟩ ::
⟨(some 34), none, (.call (.c (Value.func (.func 24) #[] #[])) [(.t 33)])⟩ ::
⟨(some 6), none, (.op (.mv (.c (Value.int .i64 0))))⟩ ::
⟨(some 7), none, (.op (.mv (.c (Value.int .i64 0))))⟩ ::
⟨(some 8), none, (.op (.mv (.t 34)))⟩ :: [])) .ret) .skip))) (.reg (
    ⟨(some 22), none, (.op (.mv (.t 9)))⟩ ::
⟨(some 23), none, (.op (.int .add (.t 22) (.c (Value.int .i64 1))))⟩ ::
⟨(some 9), none, (.op (.mv (.t 23)))⟩ :: []))))))) (.seq (.seq (.reg (
    ⟨(some 35), none, (.op (.mv (.t 1)))⟩ ::
⟨(some 36), none, (.call (.c (Value.func (.func 57) #[] #[])) [(.t 35)])⟩ ::
⟨(some 37), none, (.op (.int .neq (.t 36) (.c (Value.int .i64 0))))⟩ :: [])) (.cond (.t 37) (.seq (.reg (
    ⟨(some 38), none, (.op (.mv (.t 1)))⟩ ::
⟨(some 39), none, (.call (.c (Value.func (.func 57) #[] #[])) [(.t 38)])⟩ ::
⟨(some 6), none, (.op (.mv (.c (Value.int .i64 0))))⟩ ::
⟨(some 7), none, (.op (.mv (.c (Value.int .i64 0))))⟩ ::
⟨(some 8), none, (.op (.mv (.t 39)))⟩ :: [])) .ret) .skip)) (.seq (.seq (.reg (
    ⟨(some 40), none, (.op (.mv (.t 2)))⟩ ::
⟨(some 41), none, (.op (.len (.t 40)))⟩ ::
⟨(some 42), none, (.op (.mv (.t 0)))⟩ ::
⟨(some 43), none, (.op (.len (.t 42)))⟩ ::
⟨(some 44), none, (.op (.int .neq (.t 41) (.t 43)))⟩ :: [])) (.cond (.t 44) (.seq (.reg (
    ⟨(some 6), none, (.op (.mv (.c (Value.int .i64 0))))⟩ ::
⟨(some 7), none, (.op (.mv (.c (Value.int .i64 0))))⟩ ::
⟨(some 8), none, (.op (.mv (.c (Value.int .i64 15))))⟩ :: [])) .ret) .skip)) (.seq (.seq (.reg (
    ⟨(some 10), none, (.op (.mv (.c (Value.int .i64 0))))⟩ :: [])) (.block 2 (.loop (.seq (.seq (.reg (
    ⟨(some 45), none, (.op (.mv (.t 10)))⟩ ::
⟨(some 46), none, (.op (.mv (.t 0)))⟩ ::
⟨(some 47), none, (.op (.len (.t 46)))⟩ ::
⟨(some 48), none, (.op (.int .lss (.t 45) (.t 47)))⟩ :: [])) (.cond (.t 48) .skip (.exit 2))) (.seq (.block 3 (.seq (.reg (
    ⟨(some 51), none, (.op (.mv (.t 0)))⟩ ::
⟨(some 52), none, (.op (.mv (.t 10)))⟩ ::
⟨(some 53), none, (.op (.ixsl 16 (.t 51) (.t 52)))⟩ ::
⟨(some 54), none, (.op (.loadn 16 (.t 53)))⟩ ::
⟨(some 55), none, (.op (.mv (.t 1)))⟩ ::
⟨(some 56), none, (.call (.c (Value.func (.func 58) #[] #[])) [(.t 54), (.t 55)])⟩ ::
⟨(some 57), none, (.op (.not (.t 56)))⟩ :: [])) (.cond (.t 57) (.seq (.reg (
    ⟨(some 6), none, (.op (.mv (.c (Value.int .i64 0))))⟩ ::
⟨(some 7), none, (.op (.mv (.c (Value.int .i64 0))))⟩ ::
⟨(some 8), none, (.op (.mv (.c (Value.int .i64 19))))⟩ :: [])) .ret) .skip))) (.reg (
    ⟨(some 49), none, (.op (.mv (.t 10)))⟩ ::
⟨(some 50), none, (.op (.int .add (.t 49) (.c (Value.int .i64 1))))⟩ ::
⟨(some 10), none, (.op (.mv (.t 50)))⟩ :: []))))))) (.seq (.reg (
    ⟨(some 11), none, (.op (.mv (.c (Value.int .i64 0))))⟩ ::
⟨(some 12), none, (.op (.mv (.c (Value.int .i64 0))))⟩ :: [])) (.seq (.seq (.reg (
    ⟨(some 13), none, (.op (.mv (.c (Value.int .i64 0))))⟩ :: [])) (.block 4 (.loop (.seq (.seq (.reg (
    ⟨(some 58), none, (.op (.mv (.t 13)))⟩ ::
⟨(some 59), none, (.op (.mv (.t 0)))⟩ ::
⟨(some 60), none, (.op (.len (.t 59)))⟩ ::
⟨(some 61), none, (.op (.int .lss (.t 58) (.t 60)))⟩ :: [])) (.cond (.t 61) .skip (.exit 4))) (.seq (.block 5 (.seq (.reg (
    ⟨(some 64), none, (.op (.mv (.t 0)))⟩ ::
⟨(some 65), none, (.op (.mv (.t 13)))⟩ ::
⟨(some 66), none, (.op (.ixsl 16 (.t 64) (.t 65)))⟩ ::
⟨(some 67), none, (.op (.loadn 16 (.t 66)))⟩ ::
⟨(some 68), none, (.op (.mv (.t 1)))⟩ ::
⟨(some 69), none, (.call (.c (Value.func (.func 59) #[] #[])) [(.t 67), (.t 68)])⟩ ::
⟨(some 14), none, (.op (.alloc [Value.int .i64 0, Value.int .i64 0] 33))⟩ ::
⟨none, none, (.op (.store 2 (.t 14) (.t 69)))⟩ :: [])) (.seq (.seq (.dreg (
    ⟨(some 70), none, (.op (.mv (.t 11)))⟩ ::
⟨(some 71), none, (.op (.mv (.t 13)))⟩ ::
⟨(some 72), none, (.op (.int .eql (.t 70) (.t 71)))⟩ ::
⟨(some 73), none, (.op (.mv (.t 72)))⟩ ::
⟨(some 74), (some (73, true)), (.op (.faddr 1 (.t 14)))⟩ ::
⟨(some 75), (some (73, true)), (.op (.load1 (.t 74)))⟩ ::
⟨(some 76), (some (73, true)), (.op (.mv (.t 2)))⟩ ::
⟨(some 77), (some (73, true)), (.op (.mv (.t 13)))⟩ ::
⟨(some 78), (some (73, true)), (.op (.ixsl 1 (.t 76) (.t 77)))⟩ ::
⟨(some 79), (some (73, true)), (.op (.load1 (.t 78)))⟩ ::
⟨(some 80), (some (73, true)), (.op (.int .leq (.t 75) (.t 79)))⟩ ::
⟨(some 81), none, (.op (.pick (.t 73) (.t 80) (.c (Value.bool false))))⟩ :: []) []) (.cond (.t 81) (.reg (
    ⟨(some 82), none, (.op (.mv (.t 11)))⟩ ::
⟨(some 83), none, (.op (.int .add (.t 82) (.c (Value.int .i64 1))))⟩ ::
⟨(some 11), none, (.op (.mv (.t 83)))⟩ :: [])) .skip)) (.seq (.dreg (
    ⟨(some 84), none, (.op (.mv (.t 12)))⟩ ::
⟨(some 85), none, (.op (.mv (.t 13)))⟩ ::
⟨(some 86), none, (.op (.int .eql (.t 84) (.t 85)))⟩ ::
⟨(some 87), none, (.op (.mv (.t 86)))⟩ ::
⟨(some 88), (some (87, true)), (.op (.faddr 0 (.t 14)))⟩ ::
⟨(some 89), (some (87, true)), (.op (.load1 (.t 88)))⟩ ::
⟨(some 90), (some (87, true)), (.op (.mv (.t 2)))⟩ ::
⟨(some 91), (some (87, true)), (.op (.mv (.t 13)))⟩ ::
⟨(some 92), (some (87, true)), (.op (.ixsl 1 (.t 90) (.t 91)))⟩ ::
⟨(some 93), (some (87, true)), (.op (.load1 (.t 92)))⟩ ::
⟨(some 94), (some (87, true)), (.op (.int .leq (.t 89) (.t 93)))⟩ ::
⟨(some 95), none, (.op (.pick (.t 87) (.t 94) (.c (Value.bool false))))⟩ :: []) []) (.cond (.t 95) (.reg (
    ⟨(some 96), none, (.op (.mv (.t 12)))⟩ ::
⟨(some 97), none, (.op (.int .add (.t 96) (.c (Value.int .i64 1))))⟩ ::
⟨(some 12), none, (.op (.mv (.t 97)))⟩ :: [])) .skip))))) (.reg (
    ⟨(some 62), none, (.op (.mv (.t 13)))⟩ ::
⟨(some 63), none, (.op (.int .add (.t 62) (.c (Value.int .i64 1))))⟩ ::
⟨(some 13), none, (.op (.mv (.t 63)))⟩ :: []))))))) (.seq (.reg (
    ⟨(some 98), none, (.op (.mv (.t 11)))⟩ ::
⟨(some 99), none, (.op (.mv (.t 12)))⟩ ::
⟨(some 6), none, (.op (.mv (.t 98)))⟩ ::
⟨(some 7), none, (.op (.mv (.t 99)))⟩ ::
⟨(some 8), none, (.op (.mv (.c (Value.int .i64 0))))⟩ :: [])) .ret)))))))))
def r28 : List ResultVar := [.tmp 6, .tmp 7, .tmp 8]
set_option maxRecDepth 1000000 in
set_option maxHeartbeats 4000000 in
theorem fun28 : Fun Try.prog 28 100 3 a28 r28 :=
  ⟨rfl, Try.f28, _, rfl, rfl, rfl, by decide, rfl, rfl, rfl⟩
/-- tumblehome/tumblehomelaw04.fine -/
noncomputable def a29 : ACode := (.seq (.reg (
    ⟨(some 2), none, (.op (.box (.t 0) 35))⟩ ::
⟨(some 4), none, (.op (.mv (.c (Value.bool false))))⟩ :: [])) (.seq (.reg (
    ⟨(some 5), none, (.op (.mv (.t 1)))⟩ ::
⟨(some 6), none, (.call (.c (Value.func (.func 25) #[] #[])) [(.t 5)])⟩ ::
⟨(some 7), none, (.op (.not (.t 6)))⟩ ::
⟨(some 8), none, (.op (.mv (.t 7)))⟩ ::
⟨(some 9), (some (8, true)), (.op (.loadn 16 (.t 2)))⟩ ::
⟨(some 10), (some (8, true)), (.call (.c (Value.func (.func 24) #[] #[])) [(.t 9)])⟩ ::
⟨(some 11), (some (8, true)), (.op (.int .eql (.t 10) (.c (Value.int .i64 0))))⟩ ::
⟨(some 12), none, (.op (.pick (.t 8) (.t 11) (.c (Value.bool false))))⟩ ::
⟨(some 13), none, (.op (.mv (.t 12)))⟩ ::
⟨(some 14), (some (13, true)), (.op (.mv (.t 1)))⟩ ::
⟨(some 15), (some (13, true)), (.call (.c (Value.func (.func 57) #[] #[])) [(.t 14)])⟩ ::
⟨(some 16), (some (13, true)), (.op (.int .eql (.t 15) (.c (Value.int .i64 0))))⟩ ::
⟨(some 17), none, (.op (.pick (.t 13) (.t 16) (.c (Value.bool false))))⟩ ::
⟨(some 18), none, (.op (.mv (.t 17)))⟩ ::
⟨(some 19), (some (18, true)), (.op (.loadn 16 (.t 2)))⟩ ::
⟨(some 20), (some (18, true)), (.op (.mv (.t 1)))⟩ ::
⟨(some 21), (some (18, true)), (.call (.c (Value.func (.func 58) #[] #[])) [(.t 19), (.t 20)])⟩ ::
⟨(some 22), none, (.op (.pick (.t 18) (.t 21) (.c (Value.bool false))))⟩ ::
⟨(some 4), none, (.op (.mv (.t 22)))⟩ :: [])) .ret))
def r29 : List ResultVar := [.tmp 4]
set_option maxRecDepth 1000000 in
set_option maxHeartbeats 4000000 in
theorem fun29 : Fun Try.prog 29 23 2 a29 r29 :=
  ⟨rfl, Try.f29, _, rfl, rfl, rfl, by decide, rfl, rfl, rfl⟩
/-- tumblehome/drag.Span -/
noncomputable def a30 : ACode := (.seq (.reg (
    ⟨(some 2), none, (.op (.box (.t 0) 35))⟩ ::
⟨(some 4), none, (.op (.alloc [Value.int .i64 0, Value.int .i64 0] 33))⟩ ::
⟨(some 5), none, (.op (.mv (.c (Value.int .i64 0))))⟩ :: [])) (.seq (.reg (
    ⟨(some 9), none, (.op (.loadn 16 (.t 2)))⟩ ::
⟨(some 10), none, (.op (.mv (.t 1)))⟩ ::
⟨(some 11), none, (.call (.c (Value.func (.func 60) #[] #[])) [(.t 9), (.t 10)])⟩ ::
⟨(some 8), none, (.op (.mv (.t 11)))⟩ ::
⟨(some 12), none, (.op (.extract (.t 8) 0))⟩ ::
⟨(some 13), none, (.op (.extract (.t 8) 1))⟩ ::
⟨(some 6), none, (.op (.alloc [Value.int .i64 0, Value.int .i64 0, Value.int .i64 0, Value.int .i64 0, Value.int .i64 0, Value.int .i64 0, Value.int .i64 0, Value.int .i64 0, Value.int .i64 0, Value.int .i64 0, Value.int .i64 0, Value.int .i64 0, Value.int .i64 0, Value.int .i64 0, Value.int .i64 0, Value.int .i64 0] 82))⟩ ::
⟨none, none, (.op (.store 16 (.t 6) (.t 12)))⟩ ::
⟨(some 7), none, (.op (.mv (.t 13)))⟩ :: [])) (.seq (.seq (.reg (
    ⟨(some 14), none, (.op (.mv (.t 7)))⟩ ::
⟨(some 15), none, (.op (.int .neq (.t 14) (.c (Value.int .i64 0))))⟩ :: [])) (.cond (.t 15) (.seq (.reg (
    ⟨(some 16), none, (.op (.build [Value.int .i64 0, Value.int .i64 0] []))⟩ ::
⟨(some 17), none, (.op (.mv (.t 7)))⟩ ::
⟨none, none, (.op (.store 2 (.t 4) (.t 16)))⟩ ::
⟨(some 5), none, (.op (.mv (.t 17)))⟩ :: [])) .ret) .skip)) (.seq (.dreg (
    ⟨(some 18), none, (.op (.loadn 16 (.t 6)))⟩ ::
⟨(some 19), none, (.op (.mv (.t 1)))⟩ ::
⟨(some 20), none, (.call (.c (Value.func (.func 61) #[] #[])) [(.t 18), (.t 19), (.c (Value.int .i64 (-1)))])⟩ ::
⟨(some 21), none, (.op (.field1 7 (.t 20)))⟩ ::
⟨(some 22), none, (.op (.loadn 16 (.t 6)))⟩ ::
⟨(some 23), none, (.op (.mv (.t 1)))⟩ ::
⟨(some 24), none, (.call (.c (Value.func (.func 61) #[] #[])) [(.t 22), (.t 23), (.c (Value.int .i64 1))])⟩ ::
⟨(some 25), none, (.op (.field1 7 (.t 24)))⟩ ::
⟨(some 26), none, (.op (.build [Value.int .i64 0, Value.int .i64 0] [(0, 1, (.t 21)), (1, 1, (.t 25))]))⟩ ::
⟨none, none, (.op (.store 2 (.t 4) (.t 26)))⟩ ::
⟨(some 5), none, (.op (.mv (.c (Value.int .i64 0))))⟩ :: []) []) .ret))))
def r30 : List ResultVar := [.cell 4 33, .tmp 5]
set_option maxRecDepth 1000000 in
set_option maxHeartbeats 4000000 in
theorem fun30 : Fun Try.prog 30 27 2 a30 r30 :=
  ⟨rfl, Try.f30, _, rfl, rfl, rfl, by decide, rfl, rfl, rfl⟩
/-- tumblehome/tumblehomelaw04.True -/
noncomputable def a31 : ACode := (.seq (.reg (
    ⟨(some 2), none, (.op (.box (.t 0) 35))⟩ ::
⟨(some 3), none, (.op (.box (.t 1) 51))⟩ ::
⟨(some 4), none, (.op (.alloc [Value.int .i64 0, Value.int .i64 0, Value.int .i64 0, Value.int .i64 0, Value.int .i64 0, Value.int .i64 0] 37))⟩ :: [])) (.seq (.dreg (
    ⟨(some 5), none, (.op (.faddr 4 (.t 2)))⟩ ::
⟨(some 6), none, (.op (.loadn 2 (.t 5)))⟩ ::
⟨(some 7), none, (.op (.ixarr 6 1 (.t 3) (.c (Value.int .i64 0))))⟩ ::
⟨(some 8), none, (.op (.load1 (.t 7)))⟩ ::
⟨(some 9), none, (.call (.c (Value.func (.func 62) #[] #[])) [(.t 6), (.t 8)])⟩ ::
⟨(some 10), none, (.op (.faddr 6 (.t 2)))⟩ ::
⟨(some 11), none, (.op (.loadn 2 (.t 10)))⟩ ::
⟨(some 12), none, (.op (.ixarr 6 1 (.t 3) (.c (Value.int .i64 1))))⟩ ::
⟨(some 13), none, (.op (.load1 (.t 12)))⟩ ::
⟨(some 14), none, (.call (.c (Value.func (.func 62) #[] #[])) [(.t 11), (.t 13)])⟩ ::
⟨(some 15), none, (.op (.faddr 8 (.t 2)))⟩ ::
⟨(some 16), none, (.op (.loadn 2 (.t 15)))⟩ ::
⟨(some 17), none, (.op (.ixarr 6 1 (.t 3) (.c (Value.int .i64 2))))⟩ ::
⟨(some 18), none, (.op (.load1 (.t 17)))⟩ ::
⟨(some 19), none, (.call (.c (Value.func (.func 62) #[] #[])) [(.t 16), (.t 18)])⟩ ::
⟨(some 20), none, (.op (.faddr 10 (.t 2)))⟩ ::
⟨(some 21), none, (.op (.loadn 2 (.t 20)))⟩ ::
⟨(some 22), none, (.op (.ixarr 6 1 (.t 3) (.c (Value.int .i64 3))))⟩ ::
⟨(some 23), none, (.op (.load1 (.t 22)))⟩ ::
⟨(some 24), none, (.call (.c (Value.func (.func 62) #[] #[])) [(.t 21), (.t 23)])⟩ ::
⟨(some 25), none, (.op (.faddr 12 (.t 2)))⟩ ::
⟨(some 26), none, (.op (.loadn 2 (.t 25)))⟩ ::
⟨(some 27), none, (.op (.ixarr 6 1 (.t 3) (.c (Value.int .i64 4))))⟩ ::
⟨(some 28), none, (.op (.load1 (.t 27)))⟩ ::
⟨(some 29), none, (.call (.c (Value.func (.func 62) #[] #[])) [(.t 26), (.t 28)])⟩ ::
⟨(some 30), none, (.op (.faddr 14 (.t 2)))⟩ ::
⟨(some 31), none, (.op (.loadn 2 (.t 30)))⟩ ::
⟨(some 32), none, (.op (.ixarr 6 1 (.t 3) (.c (Value.int .i64 5))))⟩ ::
⟨(some 33), none, (.op (.load1 (.t 32)))⟩ ::
⟨(some 34), none, (.call (.c (Value.func (.func 62) #[] #[])) [(.t 31), (.t 33)])⟩ ::
⟨(some 35), none, (.op (.build [Value.int .i64 0, Value.int .i64 0, Value.int .i64 0, Value.int .i64 0, Value.int .i64 0, Value.int .i64 0] [(0, 1, (.t 9)), (1, 1, (.t 14)), (2, 1, (.t 19)), (3, 1, (.t 24)), (4, 1, (.t 29)), (5, 1, (.t 34))]))⟩ ::
⟨none, none, (.op (.store 6 (.t 4) (.t 35)))⟩ :: []) []) .ret))
def r31 : List ResultVar := [.cell 4 37]
set_option maxRecDepth 1000000 in
set_option maxHeartbeats 4000000 in
theorem fun31 : Fun Try.prog 31 36 2 a31 r31 :=
  ⟨rfl, Try.f31, _, rfl, rfl, rfl, by decide, rfl, rfl, rfl⟩
/-- tumblehome/tumblehomeref04.Measured -/
noncomputable def a32 : ACode := (.seq (.reg (
    ⟨(some 2), none, (.op (.box (.t 0) 35))⟩ ::
⟨(some 4), none, (.op (.mv (.c (Value.int .i64 0))))⟩ :: [])) (.seq (.reg (
    ⟨(some 5), none, (.op (.mv (.t 1)))⟩ ::
⟨(some 6), none, (.op (.int .mul (.c (Value.int .i64 20000000000)) (.t 5)))⟩ ::
⟨(some 7), none, (.op (.faddr 2 (.t 2)))⟩ ::
⟨(some 8), none, (.op (.load1 (.t 7)))⟩ ::
⟨(some 9), none, (.op (.faddr 0 (.t 2)))⟩ ::
⟨(some 10), none, (.op (.load1 (.t 9)))⟩ ::
⟨(some 11), none, (.op (.int .mul (.t 8) (.t 10)))⟩ ::
⟨(some 12), none, (.op (.faddr 0 (.t 2)))⟩ ::
⟨(some 13), none, (.op (.load1 (.t 12)))⟩ ::
⟨(some 14), none, (.op (.int .mul (.t 11) (.t 13)))⟩ ::
⟨(some 15), none, (.op (.idiv true (.t 6) (.t 14)))⟩ ::
⟨(some 16), none, (.op (.mnmx false (.c (Value.int .i64 1000000000)) (.t 15)))⟩ ::
⟨(some 4), none, (.op (.mv (.t 16)))⟩ :: [])) .ret))
def r32 : List ResultVar := [.tmp 4]
set_option maxRecDepth 1000000 in
set_option maxHeartbeats 4000000 in
theorem fun32 : Fun Try.prog 32 17 2 a32 r32 :=
  ⟨rfl, Try.f32, _, rfl, rfl, rfl, by decide, rfl, rfl, rfl⟩
/-- tumblehome/tumblehomeref04.Span -/
noncomputable def a33 : ACode := (.seq (.reg (
    ⟨(some 2), none, (.op (.box (.t 0) 35))⟩ ::
⟨(some 4), none, (.op (.alloc [Value.int .i64 0, Value.int .i64 0] 33))⟩ ::
⟨(some 5), none, (.op (.mv (.c (Value.int .i64 0))))⟩ :: [])) (.seq (.seq (.reg (
    ⟨(some 6), none, (.op (.loadn 16 (.t 2)))⟩ ::
⟨(some 7), none, (.call (.c (Value.func (.func 24) #[] #[])) [(.t 6)])⟩ ::
⟨(some 8), none, (.op (.int .neq (.t 7) (.c (Value.int .i64 0))))⟩ :: [])) (.cond (.t 8) (.seq (.reg (
    ⟨(some 9), none, (.op (.build [Value.int .i64 0, Value.int .i64 0] []))⟩ ::
⟨(some 10), none, (.op (.loadn 16 (.t 2)))⟩ ::
⟨(some 11), none, (.call (.c (Value.func (.func 24) #[] #[])) [(.t 10)])⟩ ::
⟨none, none, (.op (.store 2 (.t 4) (.t 9)))⟩ ::
⟨(some 5), none, (.op (.mv (.t 11)))⟩ :: [])) .ret) .skip)) (.seq (.seq (.reg (
    ⟨(some 12), none, (.op (.mv (.t 1)))⟩ ::
⟨(some 13), none, (.call (.c (Value.func (.func 57) #[] #[])) [(.t 12)])⟩ ::
⟨(some 14), none, (.op (.int .neq (.t 13) (.c (Value.int .i64 0))))⟩ :: [])) (.cond (.t 14) (.seq (.reg (
    ⟨(some 15), none, (.op (.build [Value.int .i64 0, Value.int .i64 0] []))⟩ ::
⟨(some 16), none, (.op (.mv (.t 1)))⟩ ::
⟨(some 17), none, (.call (.c (Value.func (.func 57) #[] #[])) [(.t 16)])⟩ ::
⟨none, none, (.op (.store 2 (.t 4) (.t 15)))⟩ ::
⟨(some 5), none, (.op (.mv (.t 17)))⟩ :: [])) .ret) .skip)) (.seq (.seq (.reg (
    ⟨(some 18), none, (.op (.loadn 16 (.t 2)))⟩ ::
⟨(some 19), none, (.op (.mv (.t 1)))⟩ ::
⟨(some 20), none, (.call (.c (Value.func (.func 58) #[] #[])) [(.t 18), (.t 19)])⟩ ::
⟨(some 21), none, (.op (.not (.t 20)))⟩ :: [])) (.cond (.t 21) (.seq (.reg (
    ⟨(some 22), none, (.op (.build [Value.int .i64 0, Value.int .i64 0] []))⟩ ::
⟨none, none, (.op (.store 2 (.t 4) (.t 22)))⟩ ::
⟨(some 5), none, (.op (.mv (.c (Value.int .i64 19))))⟩ :: [])) .ret) .skip)) (.seq (.reg (
    ⟨(some 23), none, (.op (.loadn 16 (.t 2)))⟩ ::
⟨(some 24), none, (.op (.mv (.t 1)))⟩ ::
⟨(some 25), none, (.call (.c (Value.func (.func 59) #[] #[])) [(.t 23), (.t 24)])⟩ ::
⟨none, none, (.op (.store 2 (.t 4) (.t 25)))⟩ ::
⟨(some 5), none, (.op (.mv (.c (Value.int .i64 0))))⟩ :: [])) .ret)))))
def r33 : List ResultVar := [.cell 4 33, .tmp 5]
set_option maxRecDepth 1000000 in
set_option maxHeartbeats 4000000 in
theorem fun33 : Fun Try.prog 33 26 2 a33 r33 :=
  ⟨rfl, Try.f33, _, rfl, rfl, rfl, by decide, rfl, rfl, rfl⟩
/-- tumblehome/drag.End -/
noncomputable def a34 : ACode := (.seq (.reg (
    ⟨(some 3), none, (.op (.box (.t 0) 35))⟩ ::
⟨(some 6), none, (.op (.mv (.c (Value.int .i64 0))))⟩ ::
⟨(some 7), none, (.op (.alloc [Value.int .i64 0, Value.int .i64 0, Value.int .i64 0, Value.int .i64 0, Value.int .i64 0, Value.int .i64 0] 37))⟩ ::
⟨(some 8), none, (.op (.mv (.c (Value.int .i64 0))))⟩ :: [])) (.seq (.reg (
    ⟨(some 14), none, (.op (.loadn 16 (.t 3)))⟩ ::
⟨(some 15), none, (.op (.mv (.t 1)))⟩ ::
⟨(some 16), none, (.call (.c (Value.func (.func 60) #[] #[])) [(.t 14), (.t 15)])⟩ ::
⟨(some 13), none, (.op (.mv (.t 16)))⟩ ::
⟨(some 17), none, (.op (.extract (.t 13) 0))⟩ ::
⟨(some 18), none, (.op (.extract (.t 13) 1))⟩ ::
⟨(some 9), none, (.op (.alloc [Value.int .i64 0, Value.int .i64 0, Value.int .i64 0, Value.int .i64 0, Value.int .i64 0, Value.int .i64 0, Value.int .i64 0, Value.int .i64 0, Value.int .i64 0, Value.int .i64 0, Value.int .i64 0, Value.int .i64 0, Value.int .i64 0, Value.int .i64 0, Value.int .i64 0, Value.int .i64 0] 82))⟩ ::
⟨none, none, (.op (.store 16 (.t 9) (.t 17)))⟩ ::
⟨(some 10), none, (.op (.mv (.t 18)))⟩ :: [])) (.seq (.seq (.reg (
    ⟨(some 19), none, (.op (.mv (.t 10)))⟩ ::
⟨(some 20), none, (.op (.int .neq (.t 19) (.c (Value.int .i64 0))))⟩ :: [])) (.cond (.t 20) (.seq (.reg (
    ⟨(some 21), none, (.op (.build [Value.int .i64 0, Value.int .i64 0, Value.int .i64 0, Value.int .i64 0, Value.int .i64 0, Value.int .i64 0] []))⟩ ::
⟨(some 22), none, (.op (.mv (.t 10)))⟩ ::
⟨(some 6), none, (.op (.mv (.c (Value.int .i64 0))))⟩ ::
⟨none, none, (.op (.store 6 (.t 7) (.t 21)))⟩ ::
⟨(some 8), none, (.op (.mv (.t 22)))⟩ :: [])) .ret) .skip)) (.seq (.reg (
    ⟨(some 11), none, (.op (.mv (.c (Value.int .i64 (-1)))))⟩ :: [])) (.seq (.seq (.reg (
    ⟨(some 23), none, (.op (.mv (.t 2)))⟩ :: [])) (.cond (.t 23) (.reg (
    ⟨(some 11), none, (.op (.mv (.c (Value.int .i64 1))))⟩ :: [])) .skip)) (.seq (.reg (
    ⟨(some 24), none, (.op (.loadn 16 (.t 9)))⟩ ::
⟨(some 25), none, (.op (.mv (.t 1)))⟩ ::
⟨(some 26), none, (.op (.mv (.t 11)))⟩ ::
⟨(some 27), none, (.call (.c (Value.func (.func 61) #[] #[])) [(.t 24), (.t 25), (.t 26)])⟩ ::
⟨(some 12), none, (.op (.alloc [Value.int .i64 0, Value.int .i64 0, Value.int .i64 0, Value.int .i64 0, Value.int .i64 0, Value.int .i64 0, Value.int .i64 0, Value.int .i64 0] 98))⟩ ::
⟨none, none, (.op (.store 8 (.t 12) (.t 27)))⟩ :: [])) (.seq (.dreg (
    ⟨(some 28), none, (.op (.faddr 0 (.t 12)))⟩ ::
⟨(some 29), none, (.op (.load1 (.t 28)))⟩ ::
⟨(some 30), none, (.op (.faddr 1 (.t 12)))⟩ ::
⟨(some 31), none, (.op (.loadn 6 (.t 30)))⟩ ::
⟨(some 6), none, (.op (.mv (.t 29)))⟩ ::
⟨none, none, (.op (.store 6 (.t 7) (.t 31)))⟩ ::
⟨(some 8), none, (.op (.mv (.c (Value.int .i64 0))))⟩ :: []) []) .ret)))))))
def r34 : List ResultVar := [.tmp 6, .cell 7 37, .tmp 8]
set_option maxRecDepth 1000000 in
set_option maxHeartbeats 4000000 in
theorem fun34 : Fun Try.prog 34 32 3 a34 r34 :=
  ⟨rfl, Try.f34, _, rfl, rfl, rfl, by decide, rfl, rfl, rfl⟩
/-- tumblehome/tumblehomelaw04.Test -/
noncomputable def a35 : ACode := (.seq (.reg (
    ⟨(some 0), none, (.op (.alloc [Value.int .i64 0, Value.int .i64 0, Value.int .i64 0, Value.int .i64 0, Value.int .i64 0, Value.int .i64 0, Value.int .i64 0, Value.int .i64 0, Value.int .i64 0, Value.int .i64 0, Value.int .i64 0, Value.int .i64 0, Value.int .i64 0, Value.int .i64 0, Value.int .i64 0, Value.int .i64 0] 35))⟩ :: [])) (.seq (.reg (
    ⟨(some 1), none, (.op (.build [Value.int .i64 0, Value.int .i64 0] [(0, 1, (.c (Value.int .i64 2))), (1, 1, (.c (Value.int .i64 3)))]))⟩ ::
⟨(some 2), none, (.op (.build [Value.int .i64 0, Value.int .i64 0] [(0, 1, (.c (Value.int .i64 500))), (1, 1, (.c (Value.int .i64 1000)))]))⟩ ::
⟨(some 3), none, (.op (.build [Value.int .i64 0, Value.int .i64 0] [(0, 1, (.c (Value.int .i64 2000))), (1, 1, (.c (Value.int .i64 2500)))]))⟩ ::
⟨(some 4), none, (.op (.build [Value.int .i64 0, Value.int .i64 0] [(0, 1, (.c (Value.int .i64 200))), (1, 1, (.c (Value.int .i64 200)))]))⟩ ::
⟨(some 5), none, (.op (.build [Value.int .i64 0, Value.int .i64 0] [(0, 1, (.c (Value.int .i64 0))), (1, 1, (.c (Value.int .i64 100)))]))⟩ ::
⟨(some 6), none, (.op (.build [Value.int .i64 0, Value.int .i64 0] [(0, 1, (.c (Value.int .i64 0))), (1, 1, (.c (Value.int .i64 5)))]))⟩ ::
⟨(some 7), none, (.op (.build [Value.int .i64 0, Value.int .i64 0, Value.int .i64 0, Value.int .i64 0, Value.int .i64 0, Value.int .i64 0, Value.int .i64 0, Value.int .i64 0, Value.int .i64 0, Value.int .i64 0, Value.int .i64 0, Value.int .i64 0, Value.int .i64 0, Value.int .i64 0, Value.int .i64 0, Value.int .i64 0] [(0, 1, (.c (Value.int .i64 10))), (1, 1, (.c (Value.int .i64 1000))), (2, 1, (.c (Value.int .i64 1000000))), (3, 1, (.c (Value.int .i64 2))), (4, 2, (.t 1)), (6, 2, (.t 2)), (8, 2, (.t 3)), (10, 2, (.t 4)), (12, 2, (.t 5)), (14, 2, (.t 6))]))⟩ ::
⟨none, none, (.op (.store 16 (.t 0) (.t 7)))⟩ :: [])) .ret))
def r35 : List ResultVar := [.cell 0 35]
set_option maxRecDepth 1000000 in
set_option maxHeartbeats 4000000 in
theorem fun35 : Fun Try.prog 35 8 0 a35 r35 :=
  ⟨rfl, Try.f35, _, rfl, rfl, rfl, by decide, rfl, rfl, rfl⟩
/-- tumblehome/tumblehomelaw04.Line -/
noncomputable def a36 : ACode := (.seq (.reg (
    ⟨(some 0), none, (.op (.alloc [Value.slice none 0 0, Value.slice none 0 0] 24))⟩ :: [])) (.seq (.reg (
    ⟨(some 1), none, (.op (.bslice [Value.int .i64 0, Value.int .i64 0, Value.int .i64 0] [(0, 1, (.c (Value.int .i64 10))), (1, 1, (.c (Value.int .i64 20))), (2, 1, (.c (Value.int .i64 40)))] 3 2))⟩ ::
⟨(some 2), none, (.op (.bslice [Value.int .i64 0, Value.int .i64 0, Value.int .i64 0] [(0, 1, (.c (Value.int .i64 100))), (1, 1, (.c (Value.int .i64 60))), (2, 1, (.c (Value.int .i64 40)))] 3 2))⟩ ::
⟨(some 3), none, (.op (.build [Value.slice none 0 0, Value.slice none 0 0] [(0, 1, (.t 1)), (1, 1, (.t 2))]))⟩ ::
⟨none, none, (.op (.store 2 (.t 0) (.t 3)))⟩ :: [])) .ret))
def r36 : List ResultVar := [.cell 0 24]
set_option maxRecDepth 1000000 in
set_option maxHeartbeats 4000000 in
theorem fun36 : Fun Try.prog 36 4 0 a36 r36 :=
  ⟨rfl, Try.f36, _, rfl, rfl, rfl, by decide, rfl, rfl, rfl⟩
/-- tumblehome/tumblehomelaw04.Other -/
noncomputable def a37 : ACode := (.seq (.reg (
    ⟨(some 0), none, (.op (.alloc [Value.slice none 0 0, Value.slice none 0 0] 24))⟩ :: [])) (.seq (.reg (
    ⟨(some 1), none, (.op (.bslice [Value.int .i64 0, Value.int .i64 0] [(0, 1, (.c (Value.int .i64 5))), (1, 1, (.c (Value.int .i64 50)))] 2 2))⟩ ::
⟨(some 2), none, (.op (.bslice [Value.int .i64 0, Value.int .i64 0] [(0, 1, (.c (Value.int .i64 90))), (1, 1, (.c (Value.int .i64 45)))] 2 2))⟩ ::
⟨(some 3), none, (.op (.build [Value.slice none 0 0, Value.slice none 0 0] [(0, 1, (.t 1)), (1, 1, (.t 2))]))⟩ ::
⟨none, none, (.op (.store 2 (.t 0) (.t 3)))⟩ :: [])) .ret))
def r37 : List ResultVar := [.cell 0 24]
set_option maxRecDepth 1000000 in
set_option maxHeartbeats 4000000 in
theorem fun37 : Fun Try.prog 37 4 0 a37 r37 :=
  ⟨rfl, Try.f37, _, rfl, rfl, rfl, by decide, rfl, rfl, rfl⟩
/-- (tumblehome/drag.line).has -/
noncomputable def a38 : ACode := (.seq (.reg (
    ⟨(some 2), none, (.op (.box (.t 0) 67))⟩ ::
⟨(some 3), none, (.op (.box (.t 1) 33))⟩ ::
⟨(some 4), none, (.op (.mv (.c (Value.bool false))))⟩ :: [])) (.seq (.reg (
    ⟨(some 6), none, (.op (.loadn 2 (.t 2)))⟩ ::
⟨(some 7), none, (.call (.c (Value.func (.func 63) #[] #[])) [(.t 6)])⟩ ::
⟨(some 5), none, (.op (.alloc [Value.int .i64 0, Value.int .i64 0] 101))⟩ ::
⟨none, none, (.op (.store 2 (.t 5) (.t 7)))⟩ :: [])) (.seq (.reg (
    ⟨(some 8), none, (.op (.faddr 0 (.t 3)))⟩ ::
⟨(some 9), none, (.op (.load1 (.t 8)))⟩ ::
⟨(some 10), none, (.op (.ixarr 2 1 (.t 5) (.c (Value.int .i64 0))))⟩ ::
⟨(some 11), none, (.op (.load1 (.t 10)))⟩ ::
⟨(some 12), none, (.op (.int .geq (.t 9) (.t 11)))⟩ ::
⟨(some 13), none, (.op (.mv (.t 12)))⟩ ::
⟨(some 14), (some (13, true)), (.op (.faddr 1 (.t 3)))⟩ ::
⟨(some 15), (some (13, true)), (.op (.load1 (.t 14)))⟩ ::
⟨(some 16), (some (13, true)), (.op (.ixarr 2 1 (.t 5) (.c (Value.int .i64 1))))⟩ ::
⟨(some 17), (some (13, true)), (.op (.load1 (.t 16)))⟩ ::
⟨(some 18), (some (13, true)), (.op (.int .leq (.t 15) (.t 17)))⟩ ::
⟨(some 19), none, (.op (.pick (.t 13) (.t 18) (.c (Value.bool false))))⟩ ::
⟨(some 4), none, (.op (.mv (.t 19)))⟩ :: [])) .ret)))
def r38 : List ResultVar := [.tmp 4]
set_option maxRecDepth 1000000 in
set_option maxHeartbeats 4000000 in
theorem fun38 : Fun Try.prog 38 20 2 a38 r38 :=
  ⟨rfl, Try.f38, _, rfl, rfl, rfl, by decide, rfl, rfl, rfl⟩
/-- (tumblehome/drag.line).friction -/
noncomputable def a39 : ACode := (.seq (.reg (
    ⟨(some 2), none, (.op (.box (.t 0) 67))⟩ ::
⟨(some 4), none, (.op (.mv (.c (Value.int .i64 0))))⟩ :: [])) (.seq (.reg (
    ⟨(some 7), none, (.op (.faddr 0 (.t 2)))⟩ ::
⟨(some 8), none, (.op (.faddr 0 (.t 7)))⟩ ::
⟨(some 9), none, (.op (.load1 (.t 8)))⟩ ::
⟨(some 10), none, (.op (.mv (.t 1)))⟩ ::
⟨(some 11), none, (.call (.c (Value.func (.func 64) #[] #[])) [(.t 9), (.t 10)])⟩ ::
⟨(some 5), none, (.op (.mv (.t 11)))⟩ :: [])) (.seq (.seq (.reg (
    ⟨(some 12), none, (.op (.faddr 0 (.t 2)))⟩ ::
⟨(some 13), none, (.op (.faddr 0 (.t 12)))⟩ ::
⟨(some 14), none, (.op (.load1 (.t 13)))⟩ ::
⟨(some 15), none, (.op (.mv (.t 5)))⟩ ::
⟨(some 16), none, (.op (.ixsl 1 (.t 14) (.t 15)))⟩ ::
⟨(some 17), none, (.op (.load1 (.t 16)))⟩ ::
⟨(some 18), none, (.op (.mv (.t 1)))⟩ ::
⟨(some 19), none, (.op (.int .eql (.t 17) (.t 18)))⟩ :: [])) (.cond (.t 19) (.seq (.reg (
    ⟨(some 20), none, (.op (.faddr 0 (.t 2)))⟩ ::
⟨(some 21), none, (.op (.faddr 1 (.t 20)))⟩ ::
⟨(some 22), none, (.op (.load1 (.t 21)))⟩ ::
⟨(some 23), none, (.op (.mv (.t 5)))⟩ ::
⟨(some 24), none, (.op (.ixsl 1 (.t 22) (.t 23)))⟩ ::
⟨(some 25), none, (.op (.load1 (.t 24)))⟩ ::
⟨(some 4), none, (.op (.mv (.t 25)))⟩ :: [])) .ret) .skip)) (.seq (.dreg (
    ⟨(some 26), none, (.op (.faddr 0 (.t 2)))⟩ ::
⟨(some 27), none, (.op (.faddr 1 (.t 26)))⟩ ::
⟨(some 28), none, (.op (.load1 (.t 27)))⟩ ::
⟨(some 29), none, (.op (.mv (.t 5)))⟩ ::
⟨(some 30), none, (.op (.int .sub (.t 29) (.c (Value.int .i64 1))))⟩ ::
⟨(some 31), none, (.op (.ixsl 1 (.t 28) (.t 30)))⟩ ::
⟨(some 32), none, (.op (.load1 (.t 31)))⟩ ::
⟨(some 33), none, (.op (.faddr 0 (.t 2)))⟩ ::
⟨(some 34), none, (.op (.faddr 1 (.t 33)))⟩ ::
⟨(some 35), none, (.op (.load1 (.t 34)))⟩ ::
⟨(some 36), none, (.op (.mv (.t 5)))⟩ ::
⟨(some 37), none, (.op (.ixsl 1 (.t 35) (.t 36)))⟩ ::
⟨(some 38), none, (.op (.load1 (.t 37)))⟩ ::
⟨(some 39), none, (.op (.int .sub (.t 32) (.t 38)))⟩ ::
⟨(some 40), none, (.op (.mv (.t 1)))⟩ ::
⟨(some 41), none, (.op (.faddr 0 (.t 2)))⟩ ::
⟨(some 42), none, (.op (.faddr 0 (.t 41)))⟩ ::
⟨(some 43), none, (.op (.load1 (.t 42)))⟩ ::
⟨(some 44), none, (.op (.mv (.t 5)))⟩ ::
⟨(some 45), none, (.op (.int .sub (.t 44) (.c (Value.int .i64 1))))⟩ ::
⟨(some 46), none, (.op (.ixsl 1 (.t 43) (.t 45)))⟩ ::
⟨(some 47), none, (.op (.load1 (.t 46)))⟩ ::
⟨(some 48), none, (.op (.int .sub (.t 40) (.t 47)))⟩ ::
⟨(some 49), none, (.op (.int .mul (.t 39) (.t 48)))⟩ ::
⟨(some 50), none, (.op (.faddr 0 (.t 2)))⟩ ::
⟨(some 51), none, (.op (.faddr 0 (.t 50)))⟩ ::
⟨(some 52), none, (.op (.load1 (.t 51)))⟩ ::
⟨(some 53), none, (.op (.mv (.t 5)))⟩ ::
⟨(some 54), none, (.op (.ixsl 1 (.t 52) (.t 53)))⟩ ::
⟨(some 55), none, (.op (.load1 (.t 54)))⟩ ::
⟨(some 56), none, (.op (.faddr 0 (.t 2)))⟩ ::
⟨(some 57), none, (.op (.faddr 0 (.t 56)))⟩ ::
⟨(some 58), none, (.op (.load1 (.t 57)))⟩ ::
⟨(some 59), none, (.op (.mv (.t 5)))⟩ ::
⟨(some 60), none, (.op (.int .sub (.t 59) (.c (Value.int .i64 1))))⟩ ::
⟨(some 61), none, (.op (.ixsl 1 (.t 58) (.t 60)))⟩ ::
⟨(some 62), none, (.op (.load1 (.t 61)))⟩ ::
⟨(some 63), none, (.op (.int .sub (.t 55) (.t 62)))⟩ ::
⟨(some 64), none, (.op (.idiv true (.t 49) (.t 63)))⟩ ::
⟨(some 6), none, (.op (.mv (.t 64)))⟩ :: []) []) (.seq (.reg (
    ⟨(some 65), none, (.op (.faddr 0 (.t 2)))⟩ ::
⟨(some 66), none, (.op (.faddr 1 (.t 65)))⟩ ::
⟨(some 67), none, (.op (.load1 (.t 66)))⟩ ::
⟨(some 68), none, (.op (.mv (.t 5)))⟩ ::
⟨(some 69), none, (.op (.int .sub (.t 68) (.c (Value.int .i64 1))))⟩ ::
⟨(some 70), none, (.op (.ixsl 1 (.t 67) (.t 69)))⟩ ::
⟨(some 71), none, (.op (.load1 (.t 70)))⟩ ::
⟨(some 72), none, (.op (.mv (.t 6)))⟩ ::
⟨(some 73), none, (.op (.int .sub (.t 71) (.t 72)))⟩ ::
⟨(some 4), none, (.op (.mv (.t 73)))⟩ :: [])) .ret)))))
def r39 : List ResultVar := [.tmp 4]
set_option maxRecDepth 1000000 in
set_option maxHeartbeats 4000000 in
theorem fun39 : Fun Try.prog 39 74 2 a39 r39 :=
  ⟨rfl, Try.f39, _, rfl, rfl, rfl, by decide, rfl, rfl, rfl⟩
/-- tumblehome/tumblehomeref04.friction -/
noncomputable def a40 : ACode := (.seq (.reg (
    ⟨(some 2), none, (.op (.box (.t 0) 24))⟩ ::
⟨(some 4), none, (.op (.mv (.c (Value.int .i64 0))))⟩ ::
⟨(some 5), none, (.op (.mv (.c (Value.bool false))))⟩ :: [])) (.seq (.seq (.reg (
    ⟨(some 6), none, (.op (.mv (.c (Value.int .i64 0))))⟩ :: [])) (.block 0 (.loop (.seq (.seq (.reg (
    ⟨(some 11), none, (.op (.mv (.t 6)))⟩ ::
⟨(some 12), none, (.op (.faddr 0 (.t 2)))⟩ ::
⟨(some 13), none, (.op (.load1 (.t 12)))⟩ ::
⟨(some 14), none, (.op (.len (.t 13)))⟩ ::
⟨(some 15), none, (.op (.int .lss (.t 11) (.t 14)))⟩ :: [])) (.cond (.t 15) .skip (.exit 0))) (.seq (.block 1 (.seq (.seq (.reg (
    ⟨(some 18), none, (.op (.faddr 0 (.t 2)))⟩ ::
⟨(some 19), none, (.op (.load1 (.t 18)))⟩ ::
⟨(some 20), none, (.op (.mv (.t 6)))⟩ ::
⟨(some 21), none, (.op (.ixsl 1 (.t 19) (.t 20)))⟩ ::
⟨(some 22), none, (.op (.load1 (.t 21)))⟩ ::
⟨(some 23), none, (.op (.mv (.t 1)))⟩ ::
⟨(some 24), none, (.op (.int .eql (.t 22) (.t 23)))⟩ :: [])) (.cond (.t 24) (.seq (.reg (
    ⟨(some 25), none, (.op (.faddr 1 (.t 2)))⟩ ::
⟨(some 26), none, (.op (.load1 (.t 25)))⟩ ::
⟨(some 27), none, (.op (.mv (.t 6)))⟩ ::
⟨(some 28), none, (.op (.ixsl 1 (.t 26) (.t 27)))⟩ ::
⟨(some 29), none, (.op (.load1 (.t 28)))⟩ ::
⟨(some 4), none, (.op (.mv (.t 29)))⟩ ::
⟨(some 5), none, (.op (.mv (.c (Value.bool true))))⟩ :: [])) .ret) .skip)) (.seq (.reg (
    ⟨(some 30), none, (.op (.mv (.t 6)))⟩ ::
⟨(some 31), none, (.op (.int .gtr (.t 30) (.c (Value.int .i64 0))))⟩ ::
⟨(some 32), none, (.op (.mv (.t 31)))⟩ ::
⟨(some 33), (some (32, true)), (.op (.faddr 0 (.t 2)))⟩ ::
⟨(some 34), (some (32, true)), (.op (.load1 (.t 33)))⟩ ::
⟨(some 35), (some (32, true)), (.op (.mv (.t 6)))⟩ ::
⟨(some 36), (some (32, true)), (.op (.int .sub (.t 35) (.c (Value.int .i64 1))))⟩ ::
⟨(some 37), (some (32, true)), (.op (.ixsl 1 (.t 34) (.t 36)))⟩ ::
⟨(some 38), (some (32, true)), (.op (.load1 (.t 37)))⟩ ::
⟨(some 39), (some (32, true)), (.op (.mv (.t 1)))⟩ ::
⟨(some 40), (some (32, true)), (.op (.int .lss (.t 38) (.t 39)))⟩ ::
⟨(some 41), none, (.op (.pick (.t 32) (.t 40) (.c (Value.bool false))))⟩ ::
⟨(some 42), none, (.op (.mv (.t 41)))⟩ ::
⟨(some 43), (some (42, true)), (.op (.mv (.t 1)))⟩ ::
⟨(some 44), (some (42, true)), (.op (.faddr 0 (.t 2)))⟩ ::
⟨(some 45), (some (42, true)), (.op (.load1 (.t 44)))⟩ ::
⟨(some 46), (some (42, true)), (.op (.mv (.t 6)))⟩ ::
⟨(some 47), (some (42, true)), (.op (.ixsl 1 (.t 45) (.t 46)))⟩ ::
⟨(some 48), (some (42, true)), (.op (.load1 (.t 47)))⟩ ::
⟨(some 49), (some (42, true)), (.op (.int .lss (.t 43) (.t 48)))⟩ ::
⟨(some 50), none, (.op (.pick (.t 42) (.t 49) (.c (Value.bool false))))⟩ :: [])) (.cond (.t 50) (.seq (.dreg (
    ⟨(some 51), none, (.op (.faddr 0 (.t 2)))⟩ ::
⟨(some 52), none, (.op (.load1 (.t 51)))⟩ ::
⟨(some 53), none, (.op (.mv (.t 6)))⟩ ::
⟨(some 54), none, (.op (.int .sub (.t 53) (.c (Value.int .i64 1))))⟩ ::
⟨(some 55), none, (.op (.ixsl 1 (.t 52) (.t 54)))⟩ ::
⟨(some 56), none, (.op (.load1 (.t 55)))⟩ ::
⟨(some 57), none, (.op (.faddr 0 (.t 2)))⟩ ::
⟨(some 58), none, (.op (.load1 (.t 57)))⟩ ::
⟨(some 59), none, (.op (.mv (.t 6)))⟩ ::
⟨(some 60), none, (.op (.ixsl 1 (.t 58) (.t 59)))⟩ ::
⟨(some 61), none, (.op (.load1 (.t 60)))⟩ ::
⟨(some 62), none, (.op (.faddr 1 (.t 2)))⟩ ::
⟨(some 63), none, (.op (.load1 (.t 62)))⟩ ::
⟨(some 64), none, (.op (.mv (.t 6)))⟩ ::
⟨(some 65), none, (.op (.int .sub (.t 64) (.c (Value.int .i64 1))))⟩ ::
⟨(some 66), none, (.op (.ixsl 1 (.t 63) (.t 65)))⟩ ::
⟨(some 67), none, (.op (.load1 (.t 66)))⟩ ::
⟨(some 68), none, (.op (.faddr 1 (.t 2)))⟩ ::
⟨(some 69), none, (.op (.load1 (.t 68)))⟩ ::
⟨(some 70), none, (.op (.mv (.t 6)))⟩ ::
⟨(some 71), none, (.op (.ixsl 1 (.t 69) (.t 70)))⟩ ::
⟨(some 72), none, (.op (.load1 (.t 71)))⟩ ::
⟨(some 7), none, (.op (.mv (.t 56)))⟩ ::
⟨(some 8), none, (.op (.mv (.t 61)))⟩ ::
⟨(some 9), none, (.op (.mv (.t 67)))⟩ ::
⟨(some 10), none, (.op (.mv (.t 72)))⟩ :: []) []) (.seq (.reg (
    ⟨(some 73), none, (.op (.mv (.t 9)))⟩ ::
⟨(some 74), none, (.op (.mv (.t 9)))⟩ ::
⟨(some 75), none, (.op (.mv (.t 10)))⟩ ::
⟨(some 76), none, (.op (.int .sub (.t 74) (.t 75)))⟩ ::
⟨(some 77), none, (.op (.mv (.t 1)))⟩ ::
⟨(some 78), none, (.op (.mv (.t 7)))⟩ ::
⟨(some 79), none, (.op (.int .sub (.t 77) (.t 78)))⟩ ::
⟨(some 80), none, (.op (.int .mul (.t 76) (.t 79)))⟩ ::
⟨(some 81), none, (.op (.mv (.t 8)))⟩ ::
⟨(some 82), none, (.op (.mv (.t 7)))⟩ ::
⟨(some 83), none, (.op (.int .sub (.t 81) (.t 82)))⟩ ::
⟨(some 84), none, (.op (.idiv true (.t 80) (.t 83)))⟩ ::
⟨(some 85), none, (.op (.int .sub (.t 73) (.t 84)))⟩ ::
⟨(some 4), none, (.op (.mv (.t 85)))⟩ ::
⟨(some 5), none, (.op (.mv (.c (Value.bool true))))⟩ :: [])) .ret)) .skip)))) (.reg (
    ⟨(some 16), none, (.op (.mv (.t 6)))⟩ ::
⟨(some 17), none, (.op (.int .add (.t 16) (.c (Value.int .i64 1))))⟩ ::
⟨(some 6), none, (.op (.mv (.t 17)))⟩ :: []))))))) (.seq (.reg (
    ⟨(some 4), none, (.op (.mv (.c (Value.int .i64 0))))⟩ ::
⟨(some 5), none, (.op (.mv (.c (Value.bool false))))⟩ :: [])) .ret)))
def r40 : List ResultVar := [.tmp 4, .tmp 5]
set_option maxRecDepth 1000000 in
set_option maxHeartbeats 4000000 in
theorem fun40 : Fun Try.prog 40 86 2 a40 r40 :=
  ⟨rfl, Try.f40, _, rfl, rfl, rfl, by decide, rfl, rfl, rfl⟩
/-- tumblehome/drag.good -/
noncomputable def a41A0 : ACode := (.reg (
    ⟨(some 3), none, (.op (.alloc [Value.int .i64 0, Value.int .i64 0, Value.int .i64 0, Value.int .i64 0] 77))⟩ ::
⟨none, none, (.op (.store 4 (.t 3) (.t 5)))⟩ :: []))
noncomputable def a41B0 : ACode := (.block 1 (.seq (.reg (
    ⟨(some 6), none, (.op (.faddr 0 (.t 3)))⟩ ::
⟨(some 7), none, (.op (.faddr 0 (.t 6)))⟩ ::
⟨(some 8), none, (.op (.load1 (.t 7)))⟩ ::
⟨(some 9), none, (.op (.faddr 2 (.t 3)))⟩ ::
⟨(some 10), none, (.op (.load1 (.t 9)))⟩ ::
⟨(some 11), none, (.op (.int .lss (.t 8) (.t 10)))⟩ ::
⟨(some 12), none, (.op (.mv (.t 11)))⟩ ::
⟨(some 13), (some (12, false)), (.op (.faddr 0 (.t 3)))⟩ ::
⟨(some 14), (some (12, false)), (.op (.faddr 0 (.t 13)))⟩ ::
⟨(some 15), (some (12, false)), (.op (.load1 (.t 14)))⟩ ::
⟨(some 16), (some (12, false)), (.op (.faddr 0 (.t 3)))⟩ ::
⟨(some 17), (some (12, false)), (.op (.faddr 1 (.t 16)))⟩ ::
⟨(some 18), (some (12, false)), (.op (.load1 (.t 17)))⟩ ::
⟨(some 19), (some (12, false)), (.op (.int .gtr (.t 15) (.t 18)))⟩ ::
⟨(some 20), none, (.op (.pick (.t 12) (.c (Value.bool true)) (.t 19)))⟩ ::
⟨(some 21), none, (.op (.mv (.t 20)))⟩ ::
⟨(some 22), (some (21, false)), (.op (.faddr 0 (.t 3)))⟩ ::
⟨(some 23), (some (21, false)), (.op (.faddr 1 (.t 22)))⟩ ::
⟨(some 24), (some (21, false)), (.op (.load1 (.t 23)))⟩ ::
⟨(some 25), (some (21, false)), (.op (.faddr 3 (.t 3)))⟩ ::
⟨(some 26), (some (21, false)), (.op (.load1 (.t 25)))⟩ ::
⟨(some 27), (some (21, false)), (.op (.int .gtr (.t 24) (.t 26)))⟩ ::
⟨(some 28), none, (.op (.pick (.t 21) (.c (Value.bool true)) (.t 27)))⟩ :: [])) (.cond (.t 28) (.seq (.reg (
    ⟨none, none, (.op (.store 1 (.t 2) (.c (Value.bool false))))⟩ :: [])) .ret) .skip)))
set_option maxRecDepth 1000000 in
set_option maxHeartbeats 4000000 in
theorem c41A0 : cCode Try.prog 29 false (rfAt Try.f41 0).1 = some a41A0 := rfl
set_option maxRecDepth 1000000 in
set_option maxHeartbeats 4000000 in
theorem c41B0 : cCode Try.prog 29 false (rfAt Try.f41 0).2 = some a41B0 := rfl
noncomputable def a41 : ACode := (.seq (.reg (
    ⟨(some 2), none, (.op (.alloc [Value.bool false] 4))⟩ :: [])) (.seq (.seq (.reg (
    ⟨(some 4), none, (.op (.mv (.t 0)))⟩ :: [])) (.block 0 (.range (.t 4) [5] 29 (rfAt Try.f41 0).1 (rfAt Try.f41 0).2 a41A0 a41B0))) (.seq (.reg (
    ⟨none, none, (.op (.store 1 (.t 2) (.c (Value.bool true))))⟩ :: [])) .ret)))
def r41 : List ResultVar := [.cell 2 4]
set_option maxRecDepth 1000000 in
set_option maxHeartbeats 4000000 in
theorem fun41 : Fun Try.prog 41 29 1 a41 r41 :=
  ⟨rfl, Try.f41, _, rfl, rfl, rfl, by decide, rfl, rfl, rfl⟩
/-- tumblehome/drag.bounds -/
noncomputable def a42 : ACode := (.seq (.reg (
    ⟨(some 2), none, (.op (.mv (.c (Value.nilFunc))))⟩ :: [])) (.seq (.reg (
    ⟨(some 3), none, (.op (.mv (.t 0)))⟩ ::
⟨(some 4), none, (.call (.c (Value.func (.func 65) #[] #[])) [(.t 3)])⟩ ::
⟨(some 2), none, (.op (.mv (.t 4)))⟩ :: [])) .ret))
def r42 : List ResultVar := [.tmp 2]
set_option maxRecDepth 1000000 in
set_option maxHeartbeats 4000000 in
theorem fun42 : Fun Try.prog 42 5 1 a42 r42 :=
  ⟨rfl, Try.f42, _, rfl, rfl, rfl, by decide, rfl, rfl, rfl⟩
/-- tumblehome/drag.exactly -/
noncomputable def a43 : ACode := (.seq (.reg (
    ⟨(some 6), none, (.op (.alloc [Value.int .i64 0, Value.int .i64 0, Value.int .i64 0, Value.int .i64 0] 77))⟩ :: [])) (.seq (.reg (
    ⟨(some 7), none, (.op (.mv (.t 0)))⟩ ::
⟨(some 8), none, (.op (.mv (.t 0)))⟩ ::
⟨(some 9), none, (.op (.build [Value.int .i64 0, Value.int .i64 0] [(0, 1, (.t 7)), (1, 1, (.t 8))]))⟩ ::
⟨(some 10), none, (.op (.mv (.t 1)))⟩ ::
⟨(some 11), none, (.op (.mv (.t 2)))⟩ ::
⟨(some 12), none, (.op (.build [Value.int .i64 0, Value.int .i64 0, Value.int .i64 0, Value.int .i64 0] [(0, 2, (.t 9)), (2, 1, (.t 10)), (3, 1, (.t 11))]))⟩ ::
⟨none, none, (.op (.store 4 (.t 6) (.t 12)))⟩ :: [])) .ret))
def r43 : List ResultVar := [.cell 6 77]
set_option maxRecDepth 1000000 in
set_option maxHeartbeats 4000000 in
theorem fun43 : Fun Try.prog 43 13 3 a43 r43 :=
  ⟨rfl, Try.f43, _, rfl, rfl, rfl, by decide, rfl, rfl, rfl⟩
/-- tumblehome/tumblehomeref04.between -/
noncomputable def a44 : ACode := (.seq (.reg (
    ⟨(some 6), none, (.op (.mv (.c (Value.bool false))))⟩ :: [])) (.seq (.reg (
    ⟨(some 7), none, (.op (.mv (.t 0)))⟩ ::
⟨(some 8), none, (.op (.mv (.t 1)))⟩ ::
⟨(some 9), none, (.op (.int .geq (.t 7) (.t 8)))⟩ ::
⟨(some 10), none, (.op (.mv (.t 9)))⟩ ::
⟨(some 11), (some (10, true)), (.op (.mv (.t 0)))⟩ ::
⟨(some 12), (some (10, true)), (.op (.mv (.t 2)))⟩ ::
⟨(some 13), (some (10, true)), (.op (.int .leq (.t 11) (.t 12)))⟩ ::
⟨(some 14), none, (.op (.pick (.t 10) (.t 13) (.c (Value.bool false))))⟩ ::
⟨(some 6), none, (.op (.mv (.t 14)))⟩ :: [])) .ret))
def r44 : List ResultVar := [.tmp 6]
set_option maxRecDepth 1000000 in
set_option maxHeartbeats 4000000 in
theorem fun44 : Fun Try.prog 44 15 3 a44 r44 :=
  ⟨rfl, Try.f44, _, rfl, rfl, rfl, by decide, rfl, rfl, rfl⟩
/-- (tumblehome/drag.reckoner).reynolds -/
noncomputable def a45 : ACode := (.seq (.reg (
    ⟨(some 1), none, (.op (.box (.t 0) 82))⟩ ::
⟨(some 2), none, (.op (.alloc [Value.int .i64 0, Value.int .i64 0, Value.int .i64 0, Value.int .i64 0] 80))⟩ :: [])) (.seq (.dreg (
    ⟨(some 3), none, (.op (.loadn 16 (.t 1)))⟩ ::
⟨(some 4), none, (.op (.faddr 0 (.t 1)))⟩ ::
⟨(some 5), none, (.op (.faddr 6 (.t 4)))⟩ ::
⟨(some 6), none, (.op (.faddr 1 (.t 5)))⟩ ::
⟨(some 7), none, (.op (.load1 (.t 6)))⟩ ::
⟨(some 8), none, (.call (.c (Value.func (.func 47) #[] #[])) [(.t 3), (.t 7)])⟩ ::
⟨(some 9), none, (.op (.loadn 16 (.t 1)))⟩ ::
⟨(some 10), none, (.op (.faddr 0 (.t 1)))⟩ ::
⟨(some 11), none, (.op (.faddr 6 (.t 10)))⟩ ::
⟨(some 12), none, (.op (.faddr 0 (.t 11)))⟩ ::
⟨(some 13), none, (.op (.load1 (.t 12)))⟩ ::
⟨(some 14), none, (.call (.c (Value.func (.func 47) #[] #[])) [(.t 9), (.t 13)])⟩ ::
⟨(some 15), none, (.op (.build [Value.int .i64 0, Value.int .i64 0] [(0, 1, (.t 8)), (1, 1, (.t 14))]))⟩ ::
⟨(some 16), none, (.op (.loadn 16 (.t 1)))⟩ ::
⟨(some 17), none, (.op (.faddr 0 (.t 1)))⟩ ::
⟨(some 18), none, (.op (.faddr 8 (.t 17)))⟩ ::
⟨(some 19), none, (.op (.faddr 1 (.t 18)))⟩ ::
⟨(some 20), none, (.op (.load1 (.t 19)))⟩ ::
⟨(some 21), none, (.call (.c (Value.func (.func 48) #[] #[])) [(.t 16), (.t 20)])⟩ ::
⟨(some 22), none, (.op (.loadn 16 (.t 1)))⟩ ::
⟨(some 23), none, (.op (.faddr 0 (.t 1)))⟩ ::
⟨(some 24), none, (.op (.faddr 8 (.t 23)))⟩ ::
⟨(some 25), none, (.op (.faddr 0 (.t 24)))⟩ ::
⟨(some 26), none, (.op (.load1 (.t 25)))⟩ ::
⟨(some 27), none, (.call (.c (Value.func (.func 48) #[] #[])) [(.t 22), (.t 26)])⟩ ::
⟨(some 28), none, (.op (.build [Value.int .i64 0, Value.int .i64 0] [(0, 1, (.t 21)), (1, 1, (.t 27))]))⟩ ::
⟨(some 29), none, (.op (.build [Value.int .i64 0, Value.int .i64 0, Value.int .i64 0, Value.int .i64 0] [(0, 2, (.t 15)), (2, 2, (.t 28))]))⟩ ::
⟨none, none, (.op (.store 4 (.t 2) (.t 29)))⟩ :: []) []) .ret))
def r45 : List ResultVar := [.cell 2 80]
set_option maxRecDepth 1000000 in
set_option maxHeartbeats 4000000 in
theorem fun45 : Fun Try.prog 45 30 1 a45 r45 :=
  ⟨rfl, Try.f45, _, rfl, rfl, rfl, by decide, rfl, rfl, rfl⟩
/-- tumblehome/tumblehomeref04.numbers -/
noncomputable def a46 : ACode := (.seq (.reg (
    ⟨(some 3), none, (.op (.box (.t 0) 35))⟩ ::
⟨(some 6), none, (.op (.mv (.c (Value.int .i64 0))))⟩ ::
⟨(some 7), none, (.op (.mv (.c (Value.int .i64 0))))⟩ :: [])) (.seq (.dreg (
    ⟨(some 8), none, (.op (.faddr 0 (.t 3)))⟩ ::
⟨(some 9), none, (.op (.load1 (.t 8)))⟩ ::
⟨(some 10), none, (.op (.faddr 1 (.t 3)))⟩ ::
⟨(some 11), none, (.op (.load1 (.t 10)))⟩ ::
⟨(some 12), none, (.op (.int .mul (.t 9) (.t 11)))⟩ ::
⟨(some 13), none, (.op (.mv (.t 1)))⟩ ::
⟨(some 14), none, (.op (.idiv true (.t 12) (.t 13)))⟩ ::
⟨(some 15), none, (.op (.faddr 0 (.t 3)))⟩ ::
⟨(some 16), none, (.op (.load1 (.t 15)))⟩ ::
⟨(some 17), none, (.op (.faddr 1 (.t 3)))⟩ ::
⟨(some 18), none, (.op (.load1 (.t 17)))⟩ ::
⟨(some 19), none, (.op (.int .mul (.t 16) (.t 18)))⟩ ::
⟨(some 20), none, (.op (.faddr 3 (.t 3)))⟩ ::
⟨(some 21), none, (.op (.load1 (.t 20)))⟩ ::
⟨(some 22), none, (.op (.int .mul (.t 19) (.t 21)))⟩ ::
⟨(some 23), none, (.op (.faddr 3 (.t 3)))⟩ ::
⟨(some 24), none, (.op (.load1 (.t 23)))⟩ ::
⟨(some 25), none, (.op (.int .mul (.t 22) (.t 24)))⟩ ::
⟨(some 26), none, (.op (.faddr 3 (.t 3)))⟩ ::
⟨(some 27), none, (.op (.load1 (.t 26)))⟩ ::
⟨(some 28), none, (.op (.int .mul (.t 25) (.t 27)))⟩ ::
⟨(some 29), none, (.op (.mv (.t 2)))⟩ ::
⟨(some 30), none, (.op (.idiv true (.t 28) (.t 29)))⟩ ::
⟨(some 6), none, (.op (.mv (.t 14)))⟩ ::
⟨(some 7), none, (.op (.mv (.t 30)))⟩ :: []) []) .ret))
def r46 : List ResultVar := [.tmp 6, .tmp 7]
set_option maxRecDepth 1000000 in
set_option maxHeartbeats 4000000 in
theorem fun46 : Fun Try.prog 46 31 3 a46 r46 :=
  ⟨rfl, Try.f46, _, rfl, rfl, rfl, by decide, rfl, rfl, rfl⟩
/-- (tumblehome/drag.reckoner).model -/
noncomputable def a47 : ACode := (.seq (.reg (
    ⟨(some 2), none, (.op (.box (.t 0) 82))⟩ ::
⟨(some 4), none, (.op (.mv (.c (Value.int .i64 0))))⟩ :: [])) (.seq (.reg (
    ⟨(some 5), none, (.op (.faddr 0 (.t 2)))⟩ ::
⟨(some 6), none, (.op (.faddr 0 (.t 5)))⟩ ::
⟨(some 7), none, (.op (.load1 (.t 6)))⟩ ::
⟨(some 8), none, (.op (.faddr 0 (.t 2)))⟩ ::
⟨(some 9), none, (.op (.faddr 1 (.t 8)))⟩ ::
⟨(some 10), none, (.op (.load1 (.t 9)))⟩ ::
⟨(some 11), none, (.op (.int .mul (.t 7) (.t 10)))⟩ ::
⟨(some 12), none, (.op (.mv (.t 1)))⟩ ::
⟨(some 13), none, (.op (.idiv true (.t 11) (.t 12)))⟩ ::
⟨(some 4), none, (.op (.mv (.t 13)))⟩ :: [])) .ret))
def r47 : List ResultVar := [.tmp 4]
set_option maxRecDepth 1000000 in
set_option maxHeartbeats 4000000 in
theorem fun47 : Fun Try.prog 47 14 2 a47 r47 :=
  ⟨rfl, Try.f47, _, rfl, rfl, rfl, by decide, rfl, rfl, rfl⟩
/-- (tumblehome/drag.reckoner).ship -/
noncomputable def a48 : ACode := (.seq (.reg (
    ⟨(some 2), none, (.op (.box (.t 0) 82))⟩ ::
⟨(some 4), none, (.op (.mv (.c (Value.int .i64 0))))⟩ :: [])) (.seq (.reg (
    ⟨(some 5), none, (.op (.faddr 0 (.t 2)))⟩ ::
⟨(some 6), none, (.op (.faddr 0 (.t 5)))⟩ ::
⟨(some 7), none, (.op (.load1 (.t 6)))⟩ ::
⟨(some 8), none, (.op (.faddr 0 (.t 2)))⟩ ::
⟨(some 9), none, (.op (.faddr 1 (.t 8)))⟩ ::
⟨(some 10), none, (.op (.load1 (.t 9)))⟩ ::
⟨(some 11), none, (.op (.int .mul (.t 7) (.t 10)))⟩ ::
⟨(some 12), none, (.op (.faddr 0 (.t 2)))⟩ ::
⟨(some 13), none, (.op (.faddr 3 (.t 12)))⟩ ::
⟨(some 14), none, (.op (.load1 (.t 13)))⟩ ::
⟨(some 15), none, (.op (.int .mul (.t 11) (.t 14)))⟩ ::
⟨(some 16), none, (.op (.faddr 0 (.t 2)))⟩ ::
⟨(some 17), none, (.op (.faddr 3 (.t 16)))⟩ ::
⟨(some 18), none, (.op (.load1 (.t 17)))⟩ ::
⟨(some 19), none, (.op (.int .mul (.t 15) (.t 18)))⟩ ::
⟨(some 20), none, (.op (.faddr 0 (.t 2)))⟩ ::
⟨(some 21), none, (.op (.faddr 3 (.t 20)))⟩ ::
⟨(some 22), none, (.op (.load1 (.t 21)))⟩ ::
⟨(some 23), none, (.op (.int .mul (.t 19) (.t 22)))⟩ ::
⟨(some 24), none, (.op (.mv (.t 1)))⟩ ::
⟨(some 25), none, (.op (.idiv true (.t 23) (.t 24)))⟩ ::
⟨(some 4), none, (.op (.mv (.t 25)))⟩ :: [])) .ret))
def r48 : List ResultVar := [.tmp 4]
set_option maxRecDepth 1000000 in
set_option maxHeartbeats 4000000 in
theorem fun48 : Fun Try.prog 48 26 2 a48 r48 :=
  ⟨rfl, Try.f48, _, rfl, rfl, rfl, by decide, rfl, rfl, rfl⟩
/-- (tumblehome/drag.reckoner).coefficient -/
noncomputable def a49 : ACode := (.seq (.reg (
    ⟨(some 3), none, (.op (.box (.t 0) 82))⟩ ::
⟨(some 4), none, (.op (.box (.t 1) 67))⟩ ::
⟨(some 5), none, (.op (.box (.t 2) 37))⟩ ::
⟨(some 6), none, (.op (.mv (.c (Value.int .i64 0))))⟩ :: [])) (.seq (.dreg (
    ⟨(some 10), none, (.op (.faddr 0 (.t 5)))⟩ ::
⟨(some 11), none, (.op (.load1 (.t 10)))⟩ ::
⟨(some 12), none, (.op (.int .mul (.c (Value.int .i64 20000000000)) (.t 11)))⟩ ::
⟨(some 13), none, (.op (.faddr 0 (.t 3)))⟩ ::
⟨(some 14), none, (.op (.faddr 2 (.t 13)))⟩ ::
⟨(some 15), none, (.op (.load1 (.t 14)))⟩ ::
⟨(some 16), none, (.op (.faddr 0 (.t 3)))⟩ ::
⟨(some 17), none, (.op (.faddr 0 (.t 16)))⟩ ::
⟨(some 18), none, (.op (.load1 (.t 17)))⟩ ::
⟨(some 19), none, (.op (.int .mul (.t 15) (.t 18)))⟩ ::
⟨(some 20), none, (.op (.faddr 0 (.t 3)))⟩ ::
⟨(some 21), none, (.op (.faddr 0 (.t 20)))⟩ ::
⟨(some 22), none, (.op (.load1 (.t 21)))⟩ ::
⟨(some 23), none, (.op (.int .mul (.t 19) (.t 22)))⟩ ::
⟨(some 24), none, (.op (.idiv true (.t 12) (.t 23)))⟩ ::
⟨(some 25), none, (.op (.mnmx false (.c (Value.int .i64 1000000000)) (.t 24)))⟩ ::
⟨(some 26), none, (.op (.faddr 4 (.t 5)))⟩ ::
⟨(some 27), none, (.op (.load1 (.t 26)))⟩ ::
⟨(some 28), none, (.op (.int .sub (.c (Value.int .i64 1000)) (.t 27)))⟩ ::
⟨(some 29), none, (.op (.int .mul (.t 25) (.t 28)))⟩ ::
⟨(some 30), none, (.op (.idiv true (.t 29) (.c (Value.int .i64 1000))))⟩ ::
⟨(some 7), none, (.op (.mv (.t 30)))⟩ :: []) []) (.seq (.reg (
    ⟨(some 31), none, (.op (.loadn 2 (.t 4)))⟩ ::
⟨(some 32), none, (.op (.mkfn (Fn.func 39) [(.t 31)] []))⟩ ::
⟨(some 8), none, (.op (.alloc [Value.nilFunc] 69))⟩ ::
⟨none, none, (.op (.store 1 (.t 8) (.t 32)))⟩ :: [])) (.seq (.reg (
    ⟨(some 33), none, (.op (.mkfn (Fn.func 66) [] [(.t 5), (.t 8)]))⟩ ::
⟨(some 9), none, (.op (.mv (.t 33)))⟩ :: [])) (.seq (.dreg (
    ⟨(some 34), none, (.op (.mv (.t 7)))⟩ ::
⟨(some 35), none, (.op (.mv (.t 9)))⟩ ::
⟨(some 36), none, (.op (.loadn 16 (.t 3)))⟩ ::
⟨(some 37), none, (.op (.faddr 1 (.t 5)))⟩ ::
⟨(some 38), none, (.op (.load1 (.t 37)))⟩ ::
⟨(some 39), none, (.call (.c (Value.func (.func 47) #[] #[])) [(.t 36), (.t 38)])⟩ ::
⟨(some 40), none, (.call (.t 35) [(.t 39)])⟩ ::
⟨(some 41), none, (.op (.int .sub (.t 34) (.t 40)))⟩ ::
⟨(some 42), none, (.op (.mv (.t 9)))⟩ ::
⟨(some 43), none, (.op (.loadn 16 (.t 3)))⟩ ::
⟨(some 44), none, (.op (.faddr 2 (.t 5)))⟩ ::
⟨(some 45), none, (.op (.load1 (.t 44)))⟩ ::
⟨(some 46), none, (.call (.c (Value.func (.func 48) #[] #[])) [(.t 43), (.t 45)])⟩ ::
⟨(some 47), none, (.call (.t 42) [(.t 46)])⟩ ::
⟨(some 48), none, (.op (.int .add (.t 41) (.t 47)))⟩ ::
⟨(some 49), none, (.op (.faddr 5 (.t 5)))⟩ ::
⟨(some 50), none, (.op (.load1 (.t 49)))⟩ ::
⟨(some 51), none, (.op (.int .add (.t 48) (.t 50)))⟩ ::
⟨(some 6), none, (.op (.mv (.t 51)))⟩ :: []) []) .ret)))))
def r49 : List ResultVar := [.tmp 6]
set_option maxRecDepth 1000000 in
set_option maxHeartbeats 4000000 in
theorem fun49 : Fun Try.prog 49 52 3 a49 r49 :=
  ⟨rfl, Try.f49, _, rfl, rfl, rfl, by decide, rfl, rfl, rfl⟩
/-- tumblehome/tumblehomeref04.IsTrue -/
noncomputable def a50 : ACode := (.seq (.reg (
    ⟨(some 2), none, (.op (.box (.t 0) 35))⟩ ::
⟨(some 3), none, (.op (.box (.t 1) 37))⟩ ::
⟨(some 4), none, (.op (.mv (.c (Value.bool false))))⟩ :: [])) (.seq (.reg (
    ⟨(some 5), none, (.op (.faddr 0 (.t 3)))⟩ ::
⟨(some 6), none, (.op (.load1 (.t 5)))⟩ ::
⟨(some 7), none, (.op (.faddr 4 (.t 2)))⟩ ::
⟨(some 8), none, (.op (.faddr 0 (.t 7)))⟩ ::
⟨(some 9), none, (.op (.load1 (.t 8)))⟩ ::
⟨(some 10), none, (.op (.faddr 4 (.t 2)))⟩ ::
⟨(some 11), none, (.op (.faddr 1 (.t 10)))⟩ ::
⟨(some 12), none, (.op (.load1 (.t 11)))⟩ ::
⟨(some 13), none, (.call (.c (Value.func (.func 44) #[] #[])) [(.t 6), (.t 9), (.t 12)])⟩ ::
⟨(some 14), none, (.op (.mv (.t 13)))⟩ ::
⟨(some 15), (some (14, true)), (.op (.faddr 1 (.t 3)))⟩ ::
⟨(some 16), (some (14, true)), (.op (.load1 (.t 15)))⟩ ::
⟨(some 17), (some (14, true)), (.op (.faddr 6 (.t 2)))⟩ ::
⟨(some 18), (some (14, true)), (.op (.faddr 0 (.t 17)))⟩ ::
⟨(some 19), (some (14, true)), (.op (.load1 (.t 18)))⟩ ::
⟨(some 20), (some (14, true)), (.op (.faddr 6 (.t 2)))⟩ ::
⟨(some 21), (some (14, true)), (.op (.faddr 1 (.t 20)))⟩ ::
⟨(some 22), (some (14, true)), (.op (.load1 (.t 21)))⟩ ::
⟨(some 23), (some (14, true)), (.call (.c (Value.func (.func 44) #[] #[])) [(.t 16), (.t 19), (.t 22)])⟩ ::
⟨(some 24), none, (.op (.pick (.t 14) (.t 23) (.c (Value.bool false))))⟩ ::
⟨(some 25), none, (.op (.mv (.t 24)))⟩ ::
⟨(some 26), (some (25, true)), (.op (.faddr 2 (.t 3)))⟩ ::
⟨(some 27), (some (25, true)), (.op (.load1 (.t 26)))⟩ ::
⟨(some 28), (some (25, true)), (.op (.faddr 8 (.t 2)))⟩ ::
⟨(some 29), (some (25, true)), (.op (.faddr 0 (.t 28)))⟩ ::
⟨(some 30), (some (25, true)), (.op (.load1 (.t 29)))⟩ ::
⟨(some 31), (some (25, true)), (.op (.faddr 8 (.t 2)))⟩ ::
⟨(some 32), (some (25, true)), (.op (.faddr 1 (.t 31)))⟩ ::
⟨(some 33), (some (25, true)), (.op (.load1 (.t 32)))⟩ ::
⟨(some 34), (some (25, true)), (.call (.c (Value.func (.func 44) #[] #[])) [(.t 27), (.t 30), (.t 33)])⟩ ::
⟨(some 35), none, (.op (.pick (.t 25) (.t 34) (.c (Value.bool false))))⟩ ::
⟨(some 36), none, (.op (.mv (.t 35)))⟩ ::
⟨(some 37), (some (36, true)), (.op (.faddr 3 (.t 3)))⟩ ::
⟨(some 38), (some (36, true)), (.op (.load1 (.t 37)))⟩ ::
⟨(some 39), (some (36, true)), (.op (.faddr 10 (.t 2)))⟩ ::
⟨(some 40), (some (36, true)), (.op (.faddr 0 (.t 39)))⟩ ::
⟨(some 41), (some (36, true)), (.op (.load1 (.t 40)))⟩ ::
⟨(some 42), (some (36, true)), (.op (.faddr 10 (.t 2)))⟩ ::
⟨(some 43), (some (36, true)), (.op (.faddr 1 (.t 42)))⟩ ::
⟨(some 44), (some (36, true)), (.op (.load1 (.t 43)))⟩ ::
⟨(some 45), (some (36, true)), (.call (.c (Value.func (.func 44) #[] #[])) [(.t 38), (.t 41), (.t 44)])⟩ ::
⟨(some 46), none, (.op (.pick (.t 36) (.t 45) (.c (Value.bool false))))⟩ ::
⟨(some 47), none, (.op (.mv (.t 46)))⟩ ::
⟨(some 48), (some (47, true)), (.op (.faddr 4 (.t 3)))⟩ ::
⟨(some 49), (some (47, true)), (.op (.load1 (.t 48)))⟩ ::
⟨(some 50), (some (47, true)), (.op (.faddr 12 (.t 2)))⟩ ::
⟨(some 51), (some (47, true)), (.op (.faddr 0 (.t 50)))⟩ ::
⟨(some 52), (some (47, true)), (.op (.load1 (.t 51)))⟩ ::
⟨(some 53), (some (47, true)), (.op (.faddr 12 (.t 2)))⟩ ::
⟨(some 54), (some (47, true)), (.op (.faddr 1 (.t 53)))⟩ ::
⟨(some 55), (some (47, true)), (.op (.load1 (.t 54)))⟩ ::
⟨(some 56), (some (47, true)), (.call (.c (Value.func (.func 44) #[] #[])) [(.t 49), (.t 52), (.t 55)])⟩ ::
⟨(some 57), none, (.op (.pick (.t 47) (.t 56) (.c (Value.bool false))))⟩ ::
⟨(some 58), none, (.op (.mv (.t 57)))⟩ ::
⟨(some 59), (some (58, true)), (.op (.faddr 5 (.t 3)))⟩ ::
⟨(some 60), (some (58, true)), (.op (.load1 (.t 59)))⟩ ::
⟨(some 61), (some (58, true)), (.op (.faddr 14 (.t 2)))⟩ ::
⟨(some 62), (some (58, true)), (.op (.faddr 0 (.t 61)))⟩ ::
⟨(some 63), (some (58, true)), (.op (.load1 (.t 62)))⟩ ::
⟨(some 64), (some (58, true)), (.op (.faddr 14 (.t 2)))⟩ ::
⟨(some 65), (some (58, true)), (.op (.faddr 1 (.t 64)))⟩ ::
⟨(some 66), (some (58, true)), (.op (.load1 (.t 65)))⟩ ::
⟨(some 67), (some (58, true)), (.call (.c (Value.func (.func 44) #[] #[])) [(.t 60), (.t 63), (.t 66)])⟩ ::
⟨(some 68), none, (.op (.pick (.t 58) (.t 67) (.c (Value.bool false))))⟩ ::
⟨(some 4), none, (.op (.mv (.t 68)))⟩ :: [])) .ret))
def r50 : List ResultVar := [.tmp 4]
set_option maxRecDepth 1000000 in
set_option maxHeartbeats 4000000 in
theorem fun50 : Fun Try.prog 50 69 2 a50 r50 :=
  ⟨rfl, Try.f50, _, rfl, rfl, rfl, by decide, rfl, rfl, rfl⟩
/-- tumblehome/tumblehomeref04.ship -/
noncomputable def a51 : ACode := (.seq (.reg (
    ⟨(some 3), none, (.op (.box (.t 0) 35))⟩ ::
⟨(some 4), none, (.op (.box (.t 1) 24))⟩ ::
⟨(some 5), none, (.op (.box (.t 2) 37))⟩ ::
⟨(some 6), none, (.op (.mv (.c (Value.int .i64 0))))⟩ ::
⟨(some 7), none, (.op (.mv (.c (Value.bool false))))⟩ :: [])) (.seq (.reg (
    ⟨(some 16), none, (.op (.loadn 16 (.t 3)))⟩ ::
⟨(some 17), none, (.op (.faddr 1 (.t 5)))⟩ ::
⟨(some 18), none, (.op (.load1 (.t 17)))⟩ ::
⟨(some 19), none, (.op (.faddr 2 (.t 5)))⟩ ::
⟨(some 20), none, (.op (.load1 (.t 19)))⟩ ::
⟨(some 21), none, (.call (.c (Value.func (.func 46) #[] #[])) [(.t 16), (.t 18), (.t 20)])⟩ ::
⟨(some 15), none, (.op (.mv (.t 21)))⟩ ::
⟨(some 22), none, (.op (.extract (.t 15) 0))⟩ ::
⟨(some 23), none, (.op (.extract (.t 15) 1))⟩ ::
⟨(some 8), none, (.op (.mv (.t 22)))⟩ ::
⟨(some 9), none, (.op (.mv (.t 23)))⟩ :: [])) (.seq (.reg (
    ⟨(some 25), none, (.op (.loadn 2 (.t 4)))⟩ ::
⟨(some 26), none, (.op (.mv (.t 8)))⟩ ::
⟨(some 27), none, (.call (.c (Value.func (.func 40) #[] #[])) [(.t 25), (.t 26)])⟩ ::
⟨(some 24), none, (.op (.mv (.t 27)))⟩ ::
⟨(some 28), none, (.op (.extract (.t 24) 0))⟩ ::
⟨(some 29), none, (.op (.extract (.t 24) 1))⟩ ::
⟨(some 10), none, (.op (.mv (.t 28)))⟩ ::
⟨(some 11), none, (.op (.mv (.t 29)))⟩ :: [])) (.seq (.reg (
    ⟨(some 31), none, (.op (.loadn 2 (.t 4)))⟩ ::
⟨(some 32), none, (.op (.mv (.t 9)))⟩ ::
⟨(some 33), none, (.call (.c (Value.func (.func 40) #[] #[])) [(.t 31), (.t 32)])⟩ ::
⟨(some 30), none, (.op (.mv (.t 33)))⟩ ::
⟨(some 34), none, (.op (.extract (.t 30) 0))⟩ ::
⟨(some 35), none, (.op (.extract (.t 30) 1))⟩ ::
⟨(some 12), none, (.op (.mv (.t 34)))⟩ ::
⟨(some 13), none, (.op (.mv (.t 35)))⟩ :: [])) (.seq (.seq (.reg (
    ⟨(some 36), none, (.op (.mv (.t 11)))⟩ ::
⟨(some 37), none, (.op (.not (.t 36)))⟩ ::
⟨(some 38), none, (.op (.mv (.t 37)))⟩ ::
⟨(some 39), (some (38, false)), (.op (.mv (.t 13)))⟩ ::
⟨(some 40), (some (38, false)), (.op (.not (.t 39)))⟩ ::
⟨(some 41), none, (.op (.pick (.t 38) (.c (Value.bool true)) (.t 40)))⟩ :: [])) (.cond (.t 41) (.seq (.reg (
    ⟨(some 6), none, (.op (.mv (.c (Value.int .i64 0))))⟩ ::
⟨(some 7), none, (.op (.mv (.c (Value.bool false))))⟩ :: [])) .ret) .skip)) (.seq (.dreg (
    ⟨(some 42), none, (.op (.loadn 16 (.t 3)))⟩ ::
⟨(some 43), none, (.op (.faddr 0 (.t 5)))⟩ ::
⟨(some 44), none, (.op (.load1 (.t 43)))⟩ ::
⟨(some 45), none, (.call (.c (Value.func (.func 32) #[] #[])) [(.t 42), (.t 44)])⟩ ::
⟨(some 46), none, (.op (.faddr 4 (.t 5)))⟩ ::
⟨(some 47), none, (.op (.load1 (.t 46)))⟩ ::
⟨(some 48), none, (.op (.int .sub (.c (Value.int .i64 1000)) (.t 47)))⟩ ::
⟨(some 49), none, (.op (.int .mul (.t 45) (.t 48)))⟩ ::
⟨(some 50), none, (.op (.idiv true (.t 49) (.c (Value.int .i64 1000))))⟩ ::
⟨(some 14), none, (.op (.mv (.t 50)))⟩ :: []) []) (.seq (.reg (
    ⟨(some 51), none, (.op (.mv (.t 14)))⟩ ::
⟨(some 52), none, (.op (.faddr 3 (.t 5)))⟩ ::
⟨(some 53), none, (.op (.load1 (.t 52)))⟩ ::
⟨(some 54), none, (.op (.int .add (.c (Value.int .i64 1000)) (.t 53)))⟩ ::
⟨(some 55), none, (.op (.mv (.t 10)))⟩ ::
⟨(some 56), none, (.op (.int .mul (.t 54) (.t 55)))⟩ ::
⟨(some 57), none, (.op (.idiv true (.t 56) (.c (Value.int .i64 1000))))⟩ ::
⟨(some 58), none, (.op (.int .sub (.t 51) (.t 57)))⟩ ::
⟨(some 59), none, (.op (.faddr 3 (.t 5)))⟩ ::
⟨(some 60), none, (.op (.load1 (.t 59)))⟩ ::
⟨(some 61), none, (.op (.int .add (.c (Value.int .i64 1000)) (.t 60)))⟩ ::
⟨(some 62), none, (.op (.mv (.t 12)))⟩ ::
⟨(some 63), none, (.op (.int .mul (.t 61) (.t 62)))⟩ ::
⟨(some 64), none, (.op (.idiv true (.t 63) (.c (Value.int .i64 1000))))⟩ ::
⟨(some 65), none, (.op (.int .add (.t 58) (.t 64)))⟩ ::
⟨(some 66), none, (.op (.faddr 5 (.t 5)))⟩ ::
⟨(some 67), none, (.op (.load1 (.t 66)))⟩ ::
⟨(some 68), none, (.op (.int .add (.t 65) (.t 67)))⟩ ::
⟨(some 6), none, (.op (.mv (.t 68)))⟩ ::
⟨(some 7), none, (.op (.mv (.c (Value.bool true))))⟩ :: [])) .ret)))))))
def r51 : List ResultVar := [.tmp 6, .tmp 7]
set_option maxRecDepth 1000000 in
set_option maxHeartbeats 4000000 in
theorem fun51 : Fun Try.prog 51 69 3 a51 r51 :=
  ⟨rfl, Try.f51, _, rfl, rfl, rfl, by decide, rfl, rfl, rfl⟩
/-- tumblehome/tumblehomeref04.within -/
noncomputable def a52 : ACode := (.seq (.reg (
    ⟨(some 3), none, (.op (.box (.t 0) 33))⟩ ::
⟨(some 6), none, (.op (.mv (.c (Value.bool false))))⟩ :: [])) (.seq (.reg (
    ⟨(some 7), none, (.op (.faddr 0 (.t 3)))⟩ ::
⟨(some 8), none, (.op (.load1 (.t 7)))⟩ ::
⟨(some 9), none, (.op (.mv (.t 1)))⟩ ::
⟨(some 10), none, (.op (.int .geq (.t 8) (.t 9)))⟩ ::
⟨(some 11), none, (.op (.mv (.t 10)))⟩ ::
⟨(some 12), (some (11, true)), (.op (.faddr 0 (.t 3)))⟩ ::
⟨(some 13), (some (11, true)), (.op (.load1 (.t 12)))⟩ ::
⟨(some 14), (some (11, true)), (.op (.faddr 1 (.t 3)))⟩ ::
⟨(some 15), (some (11, true)), (.op (.load1 (.t 14)))⟩ ::
⟨(some 16), (some (11, true)), (.op (.int .leq (.t 13) (.t 15)))⟩ ::
⟨(some 17), none, (.op (.pick (.t 11) (.t 16) (.c (Value.bool false))))⟩ ::
⟨(some 18), none, (.op (.mv (.t 17)))⟩ ::
⟨(some 19), (some (18, true)), (.op (.faddr 1 (.t 3)))⟩ ::
⟨(some 20), (some (18, true)), (.op (.load1 (.t 19)))⟩ ::
⟨(some 21), (some (18, true)), (.op (.mv (.t 2)))⟩ ::
⟨(some 22), (some (18, true)), (.op (.int .leq (.t 20) (.t 21)))⟩ ::
⟨(some 23), none, (.op (.pick (.t 18) (.t 22) (.c (Value.bool false))))⟩ ::
⟨(some 6), none, (.op (.mv (.t 23)))⟩ :: [])) .ret))
def r52 : List ResultVar := [.tmp 6]
set_option maxRecDepth 1000000 in
set_option maxHeartbeats 4000000 in
theorem fun52 : Fun Try.prog 52 24 3 a52 r52 :=
  ⟨rfl, Try.f52, _, rfl, rfl, rfl, by decide, rfl, rfl, rfl⟩
/-- tumblehome/drag.checkLines -/
noncomputable def a53 : ACode := (.seq (.reg (
    ⟨(some 2), none, (.op (.mv (.c (Value.int .i64 0))))⟩ :: [])) (.seq (.seq (.reg (
    ⟨(some 6), none, (.op (.mv (.t 0)))⟩ ::
⟨(some 7), none, (.op (.len (.t 6)))⟩ ::
⟨(some 8), none, (.op (.int .eql (.t 7) (.c (Value.int .i64 0))))⟩ ::
⟨(some 9), none, (.op (.mv (.t 8)))⟩ ::
⟨(some 10), (some (9, false)), (.op (.mv (.t 0)))⟩ ::
⟨(some 11), (some (9, false)), (.op (.len (.t 10)))⟩ ::
⟨(some 12), (some (9, false)), (.op (.int .gtr (.t 11) (.c (Value.int .i64 4))))⟩ ::
⟨(some 13), none, (.op (.pick (.t 9) (.c (Value.bool true)) (.t 12)))⟩ :: [])) (.cond (.t 13) (.seq (.reg (
    ⟨(some 2), none, (.op (.mv (.c (Value.int .i64 6))))⟩ :: [])) .ret) .skip)) (.seq (.seq (.reg (
    ⟨(some 14), none, (.op (.mv (.t 0)))⟩ ::
⟨(some 15), none, (.op (.len (.t 14)))⟩ ::
⟨(some 16), none, (.op (.mv (.c (Value.int .i64 0))))⟩ :: [])) (.block 0 (.loop (.seq (.reg (
    ⟨(some 17), none, (.op (.int .lss (.t 16) (.t 15)))⟩ :: [])) (.seq (.cond (.t 17) .skip (.exit 0)) (.seq (.block 1 (.seq (.reg (
    ⟨(some 18), none, (.op (.ixsl 2 (.t 14) (.t 16)))⟩ ::
⟨(some 19), none, (.op (.loadn 2 (.t 18)))⟩ ::
⟨(some 4), none, (.op (.alloc [Value.slice none 0 0, Value.slice none 0 0] 24))⟩ ::
⟨none, none, (.op (.store 2 (.t 4) (.t 19)))⟩ :: [])) (.seq (.reg (
    ⟨(some 20), none, (.op (.loadn 2 (.t 4)))⟩ ::
⟨(some 21), none, (.call (.c (Value.func (.func 17) #[] #[])) [(.t 20)])⟩ ::
⟨(some 5), none, (.op (.mv (.t 21)))⟩ :: [])) (.seq (.reg (
    ⟨(some 22), none, (.op (.mv (.t 5)))⟩ ::
⟨(some 23), none, (.op (.int .neq (.t 22) (.c (Value.int .i64 0))))⟩ :: [])) (.cond (.t 23) (.seq (.reg (
    ⟨(some 24), none, (.op (.mv (.t 5)))⟩ ::
⟨(some 2), none, (.op (.mv (.t 24)))⟩ :: [])) .ret) .skip))))) (.reg (
    ⟨(some 25), none, (.op (.int .add (.t 16) (.c (Value.int .i64 1))))⟩ ::
⟨(some 16), none, (.op (.mv (.t 25)))⟩ :: [])))))))) (.seq (.reg (
    ⟨(some 2), none, (.op (.mv (.c (Value.int .i64 0))))⟩ :: [])) .ret))))
def r53 : List ResultVar := [.tmp 2]
set_option maxRecDepth 1000000 in
set_option maxHeartbeats 4000000 in
theorem fun53 : Fun Try.prog 53 26 1 a53 r53 :=
  ⟨rfl, Try.f53, _, rfl, rfl, rfl, by decide, rfl, rfl, rfl⟩
/-- tumblehome/drag.Holds$1 -/
noncomputable def a54 : ACode := (.seq (.reg (
    ⟨(some 4), none, (.op (.mv (.c (Value.int .i64 0))))⟩ :: [])) (.seq (.reg (
    ⟨(some 5), none, (.op (.mv (.c (Value.int .i64 0))))⟩ :: [])) (.seq .skip (.seq (.seq (.reg (
    ⟨(some 8), none, (.op (.load1 (.t 1)))⟩ ::
⟨(some 9), none, (.op (.len (.t 8)))⟩ ::
⟨(some 10), none, (.op (.mv (.c (Value.int .i64 0))))⟩ :: [])) (.block 0 (.loop (.seq (.reg (
    ⟨(some 11), none, (.op (.int .lss (.t 10) (.t 9)))⟩ :: [])) (.seq (.cond (.t 11) .skip (.exit 0)) (.seq (.block 1 (.seq (.reg (
    ⟨(some 12), none, (.op (.mv (.t 10)))⟩ ::
⟨(some 13), none, (.op (.ixsl 2 (.t 8) (.t 10)))⟩ ::
⟨(some 14), none, (.op (.loadn 2 (.t 13)))⟩ ::
⟨(some 7), none, (.op (.alloc [Value.int .i64 0, Value.int .i64 0] 33))⟩ ::
⟨(some 6), none, (.op (.mv (.t 12)))⟩ ::
⟨none, none, (.op (.store 2 (.t 7) (.t 14)))⟩ :: [])) (.seq (.seq (.dreg (
    ⟨(some 15), none, (.op (.mv (.t 0)))⟩ ::
⟨(some 16), none, (.op (.loadn 2 (.t 7)))⟩ ::
⟨(some 17), none, (.call (.t 15) [(.t 16)])⟩ ::
⟨(some 18), none, (.op (.load1 (.t 2)))⟩ ::
⟨(some 19), none, (.op (.mv (.t 6)))⟩ ::
⟨(some 20), none, (.op (.ixsl 1 (.t 18) (.t 19)))⟩ ::
⟨(some 21), none, (.op (.load1 (.t 20)))⟩ ::
⟨(some 22), none, (.op (.int .gtr (.t 17) (.t 21)))⟩ :: []) []) (.cond (.t 22) (.exit 0) .skip)) (.reg (
    ⟨(some 23), none, (.op (.mv (.t 5)))⟩ ::
⟨(some 24), none, (.op (.int .add (.t 23) (.c (Value.int .i64 1))))⟩ ::
⟨(some 5), none, (.op (.mv (.t 24)))⟩ :: []))))) (.reg (
    ⟨(some 25), none, (.op (.int .add (.t 10) (.c (Value.int .i64 1))))⟩ ::
⟨(some 10), none, (.op (.mv (.t 25)))⟩ :: [])))))))) (.seq (.reg (
    ⟨(some 26), none, (.op (.mv (.t 5)))⟩ ::
⟨(some 4), none, (.op (.mv (.t 26)))⟩ :: [])) .ret)))))
def r54 : List ResultVar := [.tmp 4]
set_option maxRecDepth 1000000 in
set_option maxHeartbeats 4000000 in
theorem fun54 : Fun Try.prog 54 27 3 a54 r54 :=
  ⟨rfl, Try.f54, _, rfl, rfl, rfl, by decide, rfl, rfl, rfl⟩
/-- tumblehome/drag.Holds$2 -/
noncomputable def a55 : ACode := (.seq (.reg (
    ⟨(some 1), none, (.op (.box (.t 0) 33))⟩ ::
⟨(some 2), none, (.op (.mv (.c (Value.int .i64 0))))⟩ :: [])) (.seq (.reg (
    ⟨(some 3), none, (.op (.faddr 1 (.t 1)))⟩ ::
⟨(some 4), none, (.op (.load1 (.t 3)))⟩ ::
⟨(some 2), none, (.op (.mv (.t 4)))⟩ :: [])) .ret))
def r55 : List ResultVar := [.tmp 2]
set_option maxRecDepth 1000000 in
set_option maxHeartbeats 4000000 in
theorem fun55 : Fun Try.prog 55 5 1 a55 r55 :=
  ⟨rfl, Try.f55, _, rfl, rfl, rfl, by decide, rfl, rfl, rfl⟩
/-- tumblehome/drag.Holds$3 -/
noncomputable def a56 : ACode := (.seq (.reg (
    ⟨(some 1), none, (.op (.box (.t 0) 33))⟩ ::
⟨(some 2), none, (.op (.mv (.c (Value.int .i64 0))))⟩ :: [])) (.seq (.reg (
    ⟨(some 3), none, (.op (.faddr 0 (.t 1)))⟩ ::
⟨(some 4), none, (.op (.load1 (.t 3)))⟩ ::
⟨(some 2), none, (.op (.mv (.t 4)))⟩ :: [])) .ret))
def r56 : List ResultVar := [.tmp 2]
set_option maxRecDepth 1000000 in
set_option maxHeartbeats 4000000 in
theorem fun56 : Fun Try.prog 56 5 1 a56 r56 :=
  ⟨rfl, Try.f56, _, rfl, rfl, rfl, by decide, rfl, rfl, rfl⟩
/-- tumblehome/tumblehomeref04.Lines -/
noncomputable def a57 : ACode := (.seq (.reg (
    ⟨(some 2), none, (.op (.mv (.c (Value.int .i64 0))))⟩ :: [])) (.seq (.seq (.reg (
    ⟨(some 4), none, (.op (.mv (.t 0)))⟩ ::
⟨(some 5), none, (.op (.len (.t 4)))⟩ ::
⟨(some 6), none, (.op (.int .lss (.t 5) (.c (Value.int .i64 1))))⟩ ::
⟨(some 7), none, (.op (.mv (.t 6)))⟩ ::
⟨(some 8), (some (7, false)), (.op (.mv (.t 0)))⟩ ::
⟨(some 9), (some (7, false)), (.op (.len (.t 8)))⟩ ::
⟨(some 10), (some (7, false)), (.op (.int .gtr (.t 9) (.c (Value.int .i64 4))))⟩ ::
⟨(some 11), none, (.op (.pick (.t 7) (.c (Value.bool true)) (.t 10)))⟩ :: [])) (.cond (.t 11) (.seq (.reg (
    ⟨(some 2), none, (.op (.mv (.c (Value.int .i64 6))))⟩ :: [])) .ret) .skip)) (.seq (.seq (.reg (
    ⟨(some 3), none, (.op (.mv (.c (Value.int .i64 0))))⟩ :: [])) (.block 0 (.loop (.seq (.seq (.reg (
    ⟨(some 12), none, (.op (.mv (.t 3)))⟩ ::
⟨(some 13), none, (.op (.mv (.t 0)))⟩ ::
⟨(some 14), none, (.op (.len (.t 13)))⟩ ::
⟨(some 15), none, (.op (.int .lss (.t 12) (.t 14)))⟩ :: [])) (.cond (.t 15) .skip (.exit 0))) (.seq (.block 1 (.seq (.reg (
    ⟨(some 18), none, (.op (.mv (.t 0)))⟩ ::
⟨(some 19), none, (.op (.mv (.t 3)))⟩ ::
⟨(some 20), none, (.op (.ixsl 2 (.t 18) (.t 19)))⟩ ::
⟨(some 21), none, (.op (.loadn 2 (.t 20)))⟩ ::
⟨(some 22), none, (.call (.c (Value.func (.func 18) #[] #[])) [(.t 21)])⟩ ::
⟨(some 23), none, (.op (.int .neq (.t 22) (.c (Value.int .i64 0))))⟩ :: [])) (.cond (.t 23) (.seq (.reg (
    ⟨(some 24), none, (.op (.mv (.t 0)))⟩ ::
⟨(some 25), none, (.op (.mv (.t 3)))⟩ ::
⟨(some 26), none, (.op (.ixsl 2 (.t 24) (.t 25)))⟩ ::
⟨(some 27), none, (.op (.loadn 2 (.t 26)))⟩ ::
⟨(some 28), none, (.call (.c (Value.func (.func 18) #[] #[])) [(.t 27)])⟩ ::
⟨(some 2), none, (.op (.mv (.t 28)))⟩ :: [])) .ret) .skip))) (.reg (
    ⟨(some 16), none, (.op (.mv (.t 3)))⟩ ::
⟨(some 17), none, (.op (.int .add (.t 16) (.c (Value.int .i64 1))))⟩ ::
⟨(some 3), none, (.op (.mv (.t 17)))⟩ :: []))))))) (.seq (.reg (
    ⟨(some 2), none, (.op (.mv (.c (Value.int .i64 0))))⟩ :: [])) .ret))))
def r57 : List ResultVar := [.tmp 2]
set_option maxRecDepth 1000000 in
set_option maxHeartbeats 4000000 in
theorem fun57 : Fun Try.prog 57 29 1 a57 r57 :=
  ⟨rfl, Try.f57, _, rfl, rfl, rfl, by decide, rfl, rfl, rfl⟩
/-- tumblehome/tumblehomeref04.Reckoned -/
noncomputable def a58 : ACode := (.seq (.reg (
    ⟨(some 2), none, (.op (.box (.t 0) 35))⟩ ::
⟨(some 4), none, (.op (.mv (.c (Value.bool false))))⟩ :: [])) (.seq (.reg (
    ⟨(some 10), none, (.op (.loadn 16 (.t 2)))⟩ ::
⟨(some 11), none, (.call (.c (Value.func (.func 20) #[] #[])) [(.t 10)])⟩ ::
⟨(some 9), none, (.op (.mv (.t 11)))⟩ ::
⟨(some 12), none, (.op (.extract (.t 9) 0))⟩ ::
⟨(some 13), none, (.op (.extract (.t 9) 1))⟩ ::
⟨(some 14), none, (.op (.extract (.t 9) 2))⟩ ::
⟨(some 5), none, (.op (.alloc [Value.int .i64 0, Value.int .i64 0] 33))⟩ ::
⟨(some 6), none, (.op (.alloc [Value.int .i64 0, Value.int .i64 0] 33))⟩ ::
⟨none, none, (.op (.store 2 (.t 5) (.t 12)))⟩ ::
⟨none, none, (.op (.store 2 (.t 6) (.t 13)))⟩ ::
⟨(some 7), none, (.op (.mv (.t 14)))⟩ :: [])) (.seq (.seq (.reg (
    ⟨(some 8), none, (.op (.mv (.c (Value.int .i64 0))))⟩ :: [])) (.block 0 (.loop (.seq (.seq (.reg (
    ⟨(some 15), none, (.op (.mv (.t 8)))⟩ ::
⟨(some 16), none, (.op (.mv (.t 1)))⟩ ::
⟨(some 17), none, (.op (.len (.t 16)))⟩ ::
⟨(some 18), none, (.op (.int .lss (.t 15) (.t 17)))⟩ :: [])) (.cond (.t 18) .skip (.exit 0))) (.seq (.block 1 (.seq (.dreg (
    ⟨(some 21), none, (.op (.mv (.t 1)))⟩ ::
⟨(some 22), none, (.op (.mv (.t 8)))⟩ ::
⟨(some 23), none, (.op (.ixsl 2 (.t 21) (.t 22)))⟩ ::
⟨(some 24), none, (.op (.loadn 2 (.t 23)))⟩ ::
⟨(some 25), none, (.op (.loadn 2 (.t 5)))⟩ ::
⟨(some 26), none, (.call (.c (Value.func (.func 67) #[] #[])) [(.t 24), (.t 25)])⟩ ::
⟨(some 27), none, (.op (.not (.t 26)))⟩ ::
⟨(some 28), none, (.op (.mv (.t 27)))⟩ ::
⟨(some 29), (some (28, false)), (.op (.mv (.t 1)))⟩ ::
⟨(some 30), (some (28, false)), (.op (.mv (.t 8)))⟩ ::
⟨(some 31), (some (28, false)), (.op (.ixsl 2 (.t 29) (.t 30)))⟩ ::
⟨(some 32), (some (28, false)), (.op (.loadn 2 (.t 31)))⟩ ::
⟨(some 33), (some (28, false)), (.op (.loadn 2 (.t 6)))⟩ ::
⟨(some 34), (some (28, false)), (.call (.c (Value.func (.func 67) #[] #[])) [(.t 32), (.t 33)])⟩ ::
⟨(some 35), (some (28, false)), (.op (.not (.t 34)))⟩ ::
⟨(some 36), none, (.op (.pick (.t 28) (.c (Value.bool true)) (.t 35)))⟩ :: []) []) (.cond (.t 36) (.seq (.reg (
    ⟨(some 4), none, (.op (.mv (.c (Value.bool false))))⟩ :: [])) .ret) .skip))) (.reg (
    ⟨(some 19), none, (.op (.mv (.t 8)))⟩ ::
⟨(some 20), none, (.op (.int .add (.t 19) (.c (Value.int .i64 1))))⟩ ::
⟨(some 8), none, (.op (.mv (.t 20)))⟩ :: []))))))) (.seq (.reg (
    ⟨(some 4), none, (.op (.mv (.c (Value.bool true))))⟩ :: [])) .ret))))
def r58 : List ResultVar := [.tmp 4]
set_option maxRecDepth 1000000 in
set_option maxHeartbeats 4000000 in
theorem fun58 : Fun Try.prog 58 37 2 a58 r58 :=
  ⟨rfl, Try.f58, _, rfl, rfl, rfl, by decide, rfl, rfl, rfl⟩
/-- tumblehome/tumblehomeref04.spanned -/
noncomputable def a59 : ACode := (.seq (.reg (
    ⟨(some 2), none, (.op (.box (.t 0) 35))⟩ ::
⟨(some 4), none, (.op (.alloc [Value.int .i64 0, Value.int .i64 0] 33))⟩ :: [])) (.seq (.reg (
    ⟨(some 12), none, (.op (.build [Value.int .i64 0, Value.int .i64 0] [(0, 1, (.c (Value.int .i64 1099511627776))), (1, 1, (.c (Value.int .i64 (-1099511627776))))]))⟩ ::
⟨(some 5), none, (.op (.alloc [Value.int .i64 0, Value.int .i64 0] 33))⟩ ::
⟨none, none, (.op (.store 2 (.t 5) (.t 12)))⟩ :: [])) (.seq (.seq (.reg (
    ⟨(some 6), none, (.op (.mv (.c (Value.int .i64 0))))⟩ :: [])) (.block 0 (.loop (.seq (.seq (.reg (
    ⟨(some 13), none, (.op (.mv (.t 6)))⟩ ::
⟨(some 14), none, (.op (.mv (.t 1)))⟩ ::
⟨(some 15), none, (.op (.len (.t 14)))⟩ ::
⟨(some 16), none, (.op (.int .lss (.t 13) (.t 15)))⟩ :: [])) (.cond (.t 16) .skip (.exit 0))) (.seq (.block 1 (.seq (.reg (
    ⟨(some 19), none, (.op (.faddr 10 (.t 2)))⟩ ::
⟨(some 20), none, (.op (.faddr 0 (.t 19)))⟩ ::
⟨(some 21), none, (.op (.load1 (.t 20)))⟩ ::
⟨(some 7), none, (.op (.mv (.t 21)))⟩ :: [])) (.block 2 (.loop (.seq (.seq (.reg (
    ⟨(some 22), none, (.op (.mv (.t 7)))⟩ ::
⟨(some 23), none, (.op (.faddr 10 (.t 2)))⟩ ::
⟨(some 24), none, (.op (.faddr 1 (.t 23)))⟩ ::
⟨(some 25), none, (.op (.load1 (.t 24)))⟩ ::
⟨(some 26), none, (.op (.int .leq (.t 22) (.t 25)))⟩ :: [])) (.cond (.t 26) .skip (.exit 2))) (.seq (.block 3 (.seq (.reg (
    ⟨(some 8), none, (.op (.mv (.c (Value.int .i64 0))))⟩ :: [])) (.block 4 (.loop (.seq (.seq (.reg (
    ⟨(some 29), none, (.op (.mv (.t 8)))⟩ ::
⟨(some 30), none, (.op (.int .lss (.t 29) (.c (Value.int .i64 32))))⟩ :: [])) (.cond (.t 30) .skip (.exit 4))) (.seq (.block 5 (.seq (.dreg (
    ⟨(some 33), none, (.op (.faddr 4 (.t 2)))⟩ ::
⟨(some 34), none, (.op (.loadn 2 (.t 33)))⟩ ::
⟨(some 35), none, (.op (.mv (.t 8)))⟩ ::
⟨(some 36), none, (.call (.c (Value.func (.func 68) #[] #[])) [(.t 34), (.t 35), (.c (Value.int .i64 0))])⟩ ::
⟨(some 37), none, (.op (.faddr 6 (.t 2)))⟩ ::
⟨(some 38), none, (.op (.loadn 2 (.t 37)))⟩ ::
⟨(some 39), none, (.op (.mv (.t 8)))⟩ ::
⟨(some 40), none, (.call (.c (Value.func (.func 68) #[] #[])) [(.t 38), (.t 39), (.c (Value.int .i64 1))])⟩ ::
⟨(some 41), none, (.op (.faddr 8 (.t 2)))⟩ ::
⟨(some 42), none, (.op (.loadn 2 (.t 41)))⟩ ::
⟨(some 43), none, (.op (.mv (.t 8)))⟩ ::
⟨(some 44), none, (.call (.c (Value.func (.func 68) #[] #[])) [(.t 42), (.t 43), (.c (Value.int .i64 2))])⟩ ::
⟨(some 45), none, (.op (.mv (.t 7)))⟩ ::
⟨(some 46), none, (.op (.faddr 12 (.t 2)))⟩ ::
⟨(some 47), none, (.op (.loadn 2 (.t 46)))⟩ ::
⟨(some 48), none, (.op (.mv (.t 8)))⟩ ::
⟨(some 49), none, (.call (.c (Value.func (.func 68) #[] #[])) [(.t 47), (.t 48), (.c (Value.int .i64 3))])⟩ ::
⟨(some 50), none, (.op (.faddr 14 (.t 2)))⟩ ::
⟨(some 51), none, (.op (.loadn 2 (.t 50)))⟩ ::
⟨(some 52), none, (.op (.mv (.t 8)))⟩ ::
⟨(some 53), none, (.call (.c (Value.func (.func 68) #[] #[])) [(.t 51), (.t 52), (.c (Value.int .i64 4))])⟩ ::
⟨(some 54), none, (.op (.build [Value.int .i64 0, Value.int .i64 0, Value.int .i64 0, Value.int .i64 0, Value.int .i64 0, Value.int .i64 0] [(0, 1, (.t 36)), (1, 1, (.t 40)), (2, 1, (.t 44)), (3, 1, (.t 45)), (4, 1, (.t 49)), (5, 1, (.t 53))]))⟩ ::
⟨(some 9), none, (.op (.alloc [Value.int .i64 0, Value.int .i64 0, Value.int .i64 0, Value.int .i64 0, Value.int .i64 0, Value.int .i64 0] 37))⟩ ::
⟨none, none, (.op (.store 6 (.t 9) (.t 54)))⟩ :: []) []) (.seq (.dreg (
    ⟨(some 56), none, (.op (.loadn 16 (.t 2)))⟩ ::
⟨(some 57), none, (.op (.mv (.t 1)))⟩ ::
⟨(some 58), none, (.op (.mv (.t 6)))⟩ ::
⟨(some 59), none, (.op (.ixsl 2 (.t 57) (.t 58)))⟩ ::
⟨(some 60), none, (.op (.loadn 2 (.t 59)))⟩ ::
⟨(some 61), none, (.op (.loadn 6 (.t 9)))⟩ ::
⟨(some 62), none, (.call (.c (Value.func (.func 51) #[] #[])) [(.t 56), (.t 60), (.t 61)])⟩ ::
⟨(some 55), none, (.op (.mv (.t 62)))⟩ ::
⟨(some 63), none, (.op (.extract (.t 55) 0))⟩ ::
⟨(some 64), none, (.op (.extract (.t 55) 1))⟩ ::
⟨(some 10), none, (.op (.mv (.t 63)))⟩ ::
⟨(some 11), none, (.op (.mv (.t 64)))⟩ :: []) []) (.reg (
    ⟨(some 65), none, (.op (.faddr 0 (.t 5)))⟩ ::
⟨(some 66), none, (.op (.load1 (.t 65)))⟩ ::
⟨(some 67), none, (.op (.mv (.t 10)))⟩ ::
⟨(some 68), none, (.op (.mnmx false (.t 66) (.t 67)))⟩ ::
⟨(some 69), none, (.op (.faddr 1 (.t 5)))⟩ ::
⟨(some 70), none, (.op (.load1 (.t 69)))⟩ ::
⟨(some 71), none, (.op (.mv (.t 10)))⟩ ::
⟨(some 72), none, (.op (.mnmx true (.t 70) (.t 71)))⟩ ::
⟨(some 73), none, (.op (.build [Value.int .i64 0, Value.int .i64 0] [(0, 1, (.t 68)), (1, 1, (.t 72))]))⟩ ::
⟨none, none, (.op (.store 2 (.t 5) (.t 73)))⟩ :: []))))) (.reg (
    ⟨(some 31), none, (.op (.mv (.t 8)))⟩ ::
⟨(some 32), none, (.op (.int .add (.t 31) (.c (Value.int .i64 1))))⟩ ::
⟨(some 8), none, (.op (.mv (.t 32)))⟩ :: [])))))))) (.reg (
    ⟨(some 27), none, (.op (.mv (.t 7)))⟩ ::
⟨(some 28), none, (.op (.int .add (.t 27) (.c (Value.int .i64 1))))⟩ ::
⟨(some 7), none, (.op (.mv (.t 28)))⟩ :: [])))))))) (.reg (
    ⟨(some 17), none, (.op (.mv (.t 6)))⟩ ::
⟨(some 18), none, (.op (.int .add (.t 17) (.c (Value.int .i64 1))))⟩ ::
⟨(some 6), none, (.op (.mv (.t 18)))⟩ :: []))))))) (.seq (.reg (
    ⟨(some 74), none, (.op (.loadn 2 (.t 5)))⟩ ::
⟨none, none, (.op (.store 2 (.t 4) (.t 74)))⟩ :: [])) .ret))))
def r59 : List ResultVar := [.cell 4 33]
set_option maxRecDepth 1000000 in
set_option maxHeartbeats 4000000 in
theorem fun59 : Fun Try.prog 59 75 2 a59 r59 :=
  ⟨rfl, Try.f59, _, rfl, rfl, rfl, by decide, rfl, rfl, rfl⟩
/-- tumblehome/drag.reckon -/
noncomputable def a60 : ACode := (.seq (.reg (
    ⟨(some 2), none, (.op (.box (.t 0) 35))⟩ ::
⟨(some 4), none, (.op (.alloc [Value.int .i64 0, Value.int .i64 0, Value.int .i64 0, Value.int .i64 0, Value.int .i64 0, Value.int .i64 0, Value.int .i64 0, Value.int .i64 0, Value.int .i64 0, Value.int .i64 0, Value.int .i64 0, Value.int .i64 0, Value.int .i64 0, Value.int .i64 0, Value.int .i64 0, Value.int .i64 0] 82))⟩ ::
⟨(some 5), none, (.op (.mv (.c (Value.int .i64 0))))⟩ :: [])) (.seq (.reg (
    ⟨(some 9), none, (.op (.loadn 16 (.t 2)))⟩ ::
⟨(some 10), none, (.op (.build [Value.int .i64 0, Value.int .i64 0, Value.int .i64 0, Value.int .i64 0, Value.int .i64 0, Value.int .i64 0, Value.int .i64 0, Value.int .i64 0, Value.int .i64 0, Value.int .i64 0, Value.int .i64 0, Value.int .i64 0, Value.int .i64 0, Value.int .i64 0, Value.int .i64 0, Value.int .i64 0] [(0, 16, (.t 9))]))⟩ ::
⟨(some 6), none, (.op (.alloc [Value.int .i64 0, Value.int .i64 0, Value.int .i64 0, Value.int .i64 0, Value.int .i64 0, Value.int .i64 0, Value.int .i64 0, Value.int .i64 0, Value.int .i64 0, Value.int .i64 0, Value.int .i64 0, Value.int .i64 0, Value.int .i64 0, Value.int .i64 0, Value.int .i64 0, Value.int .i64 0] 82))⟩ ::
⟨none, none, (.op (.store 16 (.t 6) (.t 10)))⟩ :: [])) (.seq (.seq (.reg (
    ⟨(some 11), none, (.op (.loadn 16 (.t 2)))⟩ ::
⟨(some 12), none, (.call (.c (Value.func (.func 23) #[] #[])) [(.t 11)])⟩ ::
⟨(some 7), none, (.op (.mv (.t 12)))⟩ :: [])) (.seq (.reg (
    ⟨(some 13), none, (.op (.mv (.t 7)))⟩ ::
⟨(some 14), none, (.op (.int .neq (.t 13) (.c (Value.int .i64 0))))⟩ :: [])) (.cond (.t 14) (.seq (.reg (
    ⟨(some 15), none, (.op (.loadn 16 (.t 6)))⟩ ::
⟨(some 16), none, (.op (.mv (.t 7)))⟩ ::
⟨none, none, (.op (.store 16 (.t 4) (.t 15)))⟩ ::
⟨(some 5), none, (.op (.mv (.t 16)))⟩ :: [])) .ret) .skip))) (.seq (.seq (.reg (
    ⟨(some 17), none, (.op (.mv (.t 1)))⟩ ::
⟨(some 18), none, (.call (.c (Value.func (.func 53) #[] #[])) [(.t 17)])⟩ ::
⟨(some 8), none, (.op (.mv (.t 18)))⟩ :: [])) (.seq (.reg (
    ⟨(some 19), none, (.op (.mv (.t 8)))⟩ ::
⟨(some 20), none, (.op (.int .neq (.t 19) (.c (Value.int .i64 0))))⟩ :: [])) (.cond (.t 20) (.seq (.reg (
    ⟨(some 21), none, (.op (.loadn 16 (.t 6)))⟩ ::
⟨(some 22), none, (.op (.mv (.t 8)))⟩ ::
⟨none, none, (.op (.store 16 (.t 4) (.t 21)))⟩ ::
⟨(some 5), none, (.op (.mv (.t 22)))⟩ :: [])) .ret) .skip))) (.seq (.seq (.reg (
    ⟨(some 23), none, (.op (.mv (.t 1)))⟩ ::
⟨(some 24), none, (.op (.mkfn (Fn.func 70) [] [(.t 6)]))⟩ ::
⟨(some 25), none, (.call (.c (Value.func (.func 69) #[] #[])) [(.t 23), (.t 24)])⟩ :: [])) (.cond (.t 25) (.seq (.reg (
    ⟨(some 26), none, (.op (.loadn 16 (.t 6)))⟩ ::
⟨none, none, (.op (.store 16 (.t 4) (.t 26)))⟩ ::
⟨(some 5), none, (.op (.mv (.c (Value.int .i64 19))))⟩ :: [])) .ret) .skip)) (.seq (.reg (
    ⟨(some 27), none, (.op (.loadn 16 (.t 6)))⟩ ::
⟨none, none, (.op (.store 16 (.t 4) (.t 27)))⟩ ::
⟨(some 5), none, (.op (.mv (.c (Value.int .i64 0))))⟩ :: [])) .ret))))))
def r60 : List ResultVar := [.cell 4 82, .tmp 5]
set_option maxRecDepth 1000000 in
set_option maxHeartbeats 4000000 in
theorem fun60 : Fun Try.prog 60 28 2 a60 r60 :=
  ⟨rfl, Try.f60, _, rfl, rfl, rfl, by decide, rfl, rfl, rfl⟩
/-- (tumblehome/drag.reckoner).end -/
noncomputable def a61 : ACode := (.seq (.reg (
    ⟨(some 3), none, (.op (.box (.t 0) 82))⟩ ::
⟨(some 6), none, (.op (.alloc [Value.int .i64 0, Value.int .i64 0, Value.int .i64 0, Value.int .i64 0, Value.int .i64 0, Value.int .i64 0, Value.int .i64 0, Value.int .i64 0] 98))⟩ :: [])) (.seq (.reg (
    ⟨(some 14), none, (.op (.faddr 0 (.t 3)))⟩ ::
⟨(some 15), none, (.op (.faddr 4 (.t 14)))⟩ ::
⟨(some 16), none, (.op (.faddr 0 (.t 15)))⟩ ::
⟨(some 17), none, (.op (.load1 (.t 16)))⟩ ::
⟨(some 18), none, (.op (.faddr 0 (.t 3)))⟩ ::
⟨(some 19), none, (.op (.faddr 6 (.t 18)))⟩ ::
⟨(some 20), none, (.op (.faddr 1 (.t 19)))⟩ ::
⟨(some 21), none, (.op (.load1 (.t 20)))⟩ ::
⟨(some 22), none, (.op (.faddr 0 (.t 3)))⟩ ::
⟨(some 23), none, (.op (.faddr 8 (.t 22)))⟩ ::
⟨(some 24), none, (.op (.faddr 0 (.t 23)))⟩ ::
⟨(some 25), none, (.op (.load1 (.t 24)))⟩ ::
⟨(some 26), none, (.op (.faddr 0 (.t 3)))⟩ ::
⟨(some 27), none, (.op (.faddr 12 (.t 26)))⟩ ::
⟨(some 28), none, (.op (.faddr 1 (.t 27)))⟩ ::
⟨(some 29), none, (.op (.load1 (.t 28)))⟩ ::
⟨(some 30), none, (.op (.faddr 0 (.t 3)))⟩ ::
⟨(some 31), none, (.op (.faddr 14 (.t 30)))⟩ ::
⟨(some 32), none, (.op (.faddr 0 (.t 31)))⟩ ::
⟨(some 33), none, (.op (.load1 (.t 32)))⟩ ::
⟨(some 34), none, (.op (.build [Value.int .i64 0, Value.int .i64 0, Value.int .i64 0, Value.int .i64 0, Value.int .i64 0, Value.int .i64 0] [(0, 1, (.t 17)), (1, 1, (.t 21)), (2, 1, (.t 25)), (4, 1, (.t 29)), (5, 1, (.t 33))]))⟩ ::
⟨(some 35), none, (.op (.faddr 0 (.t 3)))⟩ ::
⟨(some 36), none, (.op (.faddr 4 (.t 35)))⟩ ::
⟨(some 37), none, (.op (.faddr 1 (.t 36)))⟩ ::
⟨(some 38), none, (.op (.load1 (.t 37)))⟩ ::
⟨(some 39), none, (.op (.faddr 0 (.t 3)))⟩ ::
⟨(some 40), none, (.op (.faddr 6 (.t 39)))⟩ ::
⟨(some 41), none, (.op (.faddr 0 (.t 40)))⟩ ::
⟨(some 42), none, (.op (.load1 (.t 41)))⟩ ::
⟨(some 43), none, (.op (.faddr 0 (.t 3)))⟩ ::
⟨(some 44), none, (.op (.faddr 8 (.t 43)))⟩ ::
⟨(some 45), none, (.op (.faddr 1 (.t 44)))⟩ ::
⟨(some 46), none, (.op (.load1 (.t 45)))⟩ ::
⟨(some 47), none, (.op (.faddr 0 (.t 3)))⟩ ::
⟨(some 48), none, (.op (.faddr 12 (.t 47)))⟩ ::
⟨(some 49), none, (.op (.faddr 0 (.t 48)))⟩ ::
⟨(some 50), none, (.op (.load1 (.t 49)))⟩ ::
⟨(some 51), none, (.op (.faddr 0 (.t 3)))⟩ ::
⟨(some 52), none, (.op (.faddr 14 (.t 51)))⟩ ::
⟨(some 53), none, (.op (.faddr 1 (.t 52)))⟩ ::
⟨(some 54), none, (.op (.load1 (.t 53)))⟩ ::
⟨(some 55), none, (.op (.build [Value.int .i64 0, Value.int .i64 0, Value.int .i64 0, Value.int .i64 0, Value.int .i64 0, Value.int .i64 0] [(0, 1, (.t 38)), (1, 1, (.t 42)), (2, 1, (.t 46)), (4, 1, (.t 50)), (5, 1, (.t 54))]))⟩ ::
⟨(some 56), none, (.op (.build [Value.int .i64 0, Value.int .i64 0, Value.int .i64 0, Value.int .i64 0, Value.int .i64 0, Value.int .i64 0, Value.int .i64 0, Value.int .i64 0, Value.int .i64 0, Value.int .i64 0, Value.int .i64 0, Value.int .i64 0] [(0, 6, (.t 34)), (6, 6, (.t 55))]))⟩ ::
⟨(some 7), none, (.op (.alloc [Value.int .i64 0, Value.int .i64 0, Value.int .i64 0, Value.int .i64 0, Value.int .i64 0, Value.int .i64 0, Value.int .i64 0, Value.int .i64 0, Value.int .i64 0, Value.int .i64 0, Value.int .i64 0, Value.int .i64 0] 110))⟩ ::
⟨none, none, (.op (.store 12 (.t 7) (.t 56)))⟩ :: [])) (.seq (.reg (
    ⟨(some 57), none, (.op (.mv (.t 2)))⟩ ::
⟨(some 58), none, (.op (.int .add (.t 57) (.c (Value.int .i64 1))))⟩ ::
⟨(some 59), none, (.op (.idiv true (.t 58) (.c (Value.int .i64 2))))⟩ ::
⟨(some 60), none, (.op (.ixarr 2 6 (.t 7) (.t 59)))⟩ ::
⟨(some 61), none, (.op (.loadn 6 (.t 60)))⟩ ::
⟨(some 8), none, (.op (.alloc [Value.int .i64 0, Value.int .i64 0, Value.int .i64 0, Value.int .i64 0, Value.int .i64 0, Value.int .i64 0] 37))⟩ ::
⟨none, none, (.op (.store 6 (.t 8) (.t 61)))⟩ :: [])) (.seq (.reg (
    ⟨(some 62), none, (.op (.build [Value.int .i64 0, Value.int .i64 0, Value.int .i64 0, Value.int .i64 0, Value.int .i64 0, Value.int .i64 0, Value.int .i64 0, Value.int .i64 0] [(0, 1, (.c (Value.int .i64 (-1))))]))⟩ ::
⟨(some 9), none, (.op (.alloc [Value.int .i64 0, Value.int .i64 0, Value.int .i64 0, Value.int .i64 0, Value.int .i64 0, Value.int .i64 0, Value.int .i64 0, Value.int .i64 0] 98))⟩ ::
⟨none, none, (.op (.store 8 (.t 9) (.t 62)))⟩ :: [])) (.seq (.reg (
    ⟨(some 63), none, (.op (.loadn 8 (.t 9)))⟩ ::
⟨(some 10), none, (.op (.alloc [Value.int .i64 0, Value.int .i64 0, Value.int .i64 0, Value.int .i64 0, Value.int .i64 0, Value.int .i64 0, Value.int .i64 0, Value.int .i64 0] 98))⟩ ::
⟨none, none, (.op (.store 8 (.t 10) (.t 63)))⟩ :: [])) (.seq (.seq (.reg (
    ⟨(some 64), none, (.op (.mv (.t 1)))⟩ ::
⟨(some 65), none, (.op (.len (.t 64)))⟩ ::
⟨(some 66), none, (.op (.mv (.c (Value.int .i64 0))))⟩ :: [])) (.block 0 (.loop (.seq (.reg (
    ⟨(some 67), none, (.op (.int .lss (.t 66) (.t 65)))⟩ :: [])) (.seq (.cond (.t 67) .skip (.exit 0)) (.seq (.block 1 (.seq (.reg (
    ⟨(some 68), none, (.op (.mv (.t 66)))⟩ ::
⟨(some 69), none, (.op (.ixsl 2 (.t 64) (.t 66)))⟩ ::
⟨(some 70), none, (.op (.loadn 2 (.t 69)))⟩ ::
⟨(some 12), none, (.op (.alloc [Value.slice none 0 0, Value.slice none 0 0] 24))⟩ ::
⟨(some 11), none, (.op (.mv (.t 68)))⟩ ::
⟨none, none, (.op (.store 2 (.t 12) (.t 70)))⟩ :: [])) (.seq (.reg (
    ⟨(some 71), none, (.op (.faddr 0 (.t 3)))⟩ ::
⟨(some 72), none, (.op (.faddr 10 (.t 71)))⟩ ::
⟨(some 73), none, (.op (.faddr 0 (.t 72)))⟩ ::
⟨(some 74), none, (.op (.load1 (.t 73)))⟩ ::
⟨(some 75), none, (.op (.faddr 3 (.t 8)))⟩ ::
⟨none, none, (.op (.store 1 (.t 75) (.t 74)))⟩ :: [])) (.block 2 (.loop (.seq (.seq (.reg (
    ⟨(some 76), none, (.op (.faddr 3 (.t 8)))⟩ ::
⟨(some 77), none, (.op (.load1 (.t 76)))⟩ ::
⟨(some 78), none, (.op (.faddr 0 (.t 3)))⟩ ::
⟨(some 79), none, (.op (.faddr 10 (.t 78)))⟩ ::
⟨(some 80), none, (.op (.faddr 1 (.t 79)))⟩ ::
⟨(some 81), none, (.op (.load1 (.t 80)))⟩ ::
⟨(some 82), none, (.op (.int .leq (.t 77) (.t 81)))⟩ :: [])) (.cond (.t 82) .skip (.exit 2))) (.seq (.block 3 (.seq (.reg (
    ⟨(some 87), none, (.op (.loadn 16 (.t 3)))⟩ ::
⟨(some 88), none, (.op (.loadn 2 (.t 12)))⟩ ::
⟨(some 89), none, (.op (.build [Value.slice none 0 0, Value.slice none 0 0] [(0, 2, (.t 88))]))⟩ ::
⟨(some 90), none, (.op (.loadn 6 (.t 8)))⟩ ::
⟨(some 91), none, (.call (.c (Value.func (.func 49) #[] #[])) [(.t 87), (.t 89), (.t 90)])⟩ ::
⟨(some 13), none, (.op (.mv (.t 91)))⟩ :: [])) (.seq (.reg (
    ⟨(some 92), none, (.op (.loadn 8 (.t 10)))⟩ ::
⟨(some 93), none, (.op (.loadn 8 (.t 9)))⟩ ::
⟨(some 94), none, (.op (.pure (rawOp Try.f61 12 2)))⟩ ::
⟨(some 95), none, (.op (.mv (.t 94)))⟩ ::
⟨(some 96), (some (95, false)), (.op (.mv (.t 2)))⟩ ::
⟨(some 97), (some (95, false)), (.op (.mv (.t 13)))⟩ ::
⟨(some 98), (some (95, false)), (.op (.int .mul (.t 96) (.t 97)))⟩ ::
⟨(some 99), (some (95, false)), (.op (.mv (.t 2)))⟩ ::
⟨(some 100), (some (95, false)), (.op (.faddr 7 (.t 10)))⟩ ::
⟨(some 101), (some (95, false)), (.op (.load1 (.t 100)))⟩ ::
⟨(some 102), (some (95, false)), (.op (.int .mul (.t 99) (.t 101)))⟩ ::
⟨(some 103), (some (95, false)), (.op (.int .gtr (.t 98) (.t 102)))⟩ ::
⟨(some 104), none, (.op (.pick (.t 95) (.c (Value.bool true)) (.t 103)))⟩ :: [])) (.cond (.t 104) (.reg (
    ⟨(some 105), none, (.op (.mv (.t 11)))⟩ ::
⟨(some 106), none, (.op (.loadn 6 (.t 8)))⟩ ::
⟨(some 107), none, (.op (.mv (.t 13)))⟩ ::
⟨(some 108), none, (.op (.build [Value.int .i64 0, Value.int .i64 0, Value.int .i64 0, Value.int .i64 0, Value.int .i64 0, Value.int .i64 0, Value.int .i64 0, Value.int .i64 0] [(0, 1, (.t 105)), (1, 6, (.t 106)), (7, 1, (.t 107))]))⟩ ::
⟨none, none, (.op (.store 8 (.t 10) (.t 108)))⟩ :: [])) .skip)))) (.reg (
    ⟨(some 83), none, (.op (.faddr 3 (.t 8)))⟩ ::
⟨(some 84), none, (.op (.load1 (.t 83)))⟩ ::
⟨(some 85), none, (.op (.int .add (.t 84) (.c (Value.int .i64 1))))⟩ ::
⟨(some 86), none, (.op (.faddr 3 (.t 8)))⟩ ::
⟨none, none, (.op (.store 1 (.t 86) (.t 85)))⟩ :: []))))))))) (.reg (
    ⟨(some 109), none, (.op (.int .add (.t 66) (.c (Value.int .i64 1))))⟩ ::
⟨(some 66), none, (.op (.mv (.t 109)))⟩ :: [])))))))) (.seq (.reg (
    ⟨(some 110), none, (.op (.loadn 8 (.t 10)))⟩ ::
⟨none, none, (.op (.store 8 (.t 6) (.t 110)))⟩ :: [])) .ret)))))))
def r61 : List ResultVar := [.cell 6 98]
set_option maxRecDepth 1000000 in
set_option maxHeartbeats 4000000 in
theorem fun61 : Fun Try.prog 61 111 3 a61 r61 :=
  ⟨rfl, Try.f61, _, rfl, rfl, rfl, by decide, rfl, rfl, rfl⟩
/-- tumblehome/tumblehomelaw04.pick -/
noncomputable def a62 : ACode := (.seq (.reg (
    ⟨(some 2), none, (.op (.box (.t 0) 33))⟩ ::
⟨(some 4), none, (.op (.mv (.c (Value.int .i64 0))))⟩ :: [])) (.seq (.dreg (
    ⟨(some 5), none, (.op (.faddr 0 (.t 2)))⟩ ::
⟨(some 6), none, (.op (.load1 (.t 5)))⟩ ::
⟨(some 7), none, (.op (.mv (.t 1)))⟩ ::
⟨(some 8), none, (.op (.conv .i64 (.t 7)))⟩ ::
⟨(some 9), none, (.op (.faddr 1 (.t 2)))⟩ ::
⟨(some 10), none, (.op (.load1 (.t 9)))⟩ ::
⟨(some 11), none, (.op (.faddr 0 (.t 2)))⟩ ::
⟨(some 12), none, (.op (.load1 (.t 11)))⟩ ::
⟨(some 13), none, (.op (.int .sub (.t 10) (.t 12)))⟩ ::
⟨(some 14), none, (.op (.int .add (.t 13) (.c (Value.int .i64 1))))⟩ ::
⟨(some 15), none, (.op (.idiv false (.t 8) (.t 14)))⟩ ::
⟨(some 16), none, (.op (.int .add (.t 6) (.t 15)))⟩ ::
⟨(some 4), none, (.op (.mv (.t 16)))⟩ :: []) []) .ret))
def r62 : List ResultVar := [.tmp 4]
set_option maxRecDepth 1000000 in
set_option maxHeartbeats 4000000 in
theorem fun62 : Fun Try.prog 62 17 2 a62 r62 :=
  ⟨rfl, Try.f62, _, rfl, rfl, rfl, by decide, rfl, rfl, rfl⟩
/-- (tumblehome/drag.line).ends -/
noncomputable def a63 : ACode := (.seq (.reg (
    ⟨(some 1), none, (.op (.box (.t 0) 67))⟩ ::
⟨(some 2), none, (.op (.alloc [Value.int .i64 0, Value.int .i64 0] 101))⟩ :: [])) (.seq (.dreg (
    ⟨(some 3), none, (.op (.faddr 0 (.t 1)))⟩ ::
⟨(some 4), none, (.op (.faddr 0 (.t 3)))⟩ ::
⟨(some 5), none, (.op (.load1 (.t 4)))⟩ ::
⟨(some 6), none, (.op (.ixsl 1 (.t 5) (.c (Value.int .i64 0))))⟩ ::
⟨(some 7), none, (.op (.load1 (.t 6)))⟩ ::
⟨(some 8), none, (.op (.faddr 0 (.t 1)))⟩ ::
⟨(some 9), none, (.op (.faddr 0 (.t 8)))⟩ ::
⟨(some 10), none, (.op (.load1 (.t 9)))⟩ ::
⟨(some 11), none, (.op (.faddr 0 (.t 1)))⟩ ::
⟨(some 12), none, (.op (.faddr 0 (.t 11)))⟩ ::
⟨(some 13), none, (.op (.load1 (.t 12)))⟩ ::
⟨(some 14), none, (.op (.len (.t 13)))⟩ ::
⟨(some 15), none, (.op (.int .sub (.t 14) (.c (Value.int .i64 1))))⟩ ::
⟨(some 16), none, (.op (.ixsl 1 (.t 10) (.t 15)))⟩ ::
⟨(some 17), none, (.op (.load1 (.t 16)))⟩ ::
⟨(some 18), none, (.op (.build [Value.int .i64 0, Value.int .i64 0] [(0, 1, (.t 7)), (1, 1, (.t 17))]))⟩ ::
⟨none, none, (.op (.store 2 (.t 2) (.t 18)))⟩ :: []) []) .ret))
def r63 : List ResultVar := [.cell 2 101]
set_option maxRecDepth 1000000 in
set_option maxHeartbeats 4000000 in
theorem fun63 : Fun Try.prog 63 19 1 a63 r63 :=
  ⟨rfl, Try.f63, _, rfl, rfl, rfl, by decide, rfl, rfl, rfl⟩
/-- tumblehome/drag.after[int64] -/
noncomputable def a64 : ACode := (.seq (.reg (
    ⟨(some 4), none, (.op (.mv (.c (Value.int .i64 0))))⟩ :: [])) (.seq (.reg (
    ⟨(some 8), none, (.op (.mv (.t 0)))⟩ ::
⟨(some 9), none, (.op (.mv (.t 1)))⟩ ::
⟨(some 10), none, (.call (.c (Value.func (.func 72) #[] #[])) [(.t 8), (.t 9)])⟩ ::
⟨(some 7), none, (.op (.mv (.t 10)))⟩ ::
⟨(some 11), none, (.op (.extract (.t 7) 0))⟩ ::
⟨(some 12), none, (.op (.extract (.t 7) 1))⟩ ::
⟨(some 5), none, (.op (.mv (.t 11)))⟩ ::
⟨(some 6), none, (.op (.mv (.t 12)))⟩ :: [])) (.seq (.reg (
    ⟨(some 13), none, (.op (.mv (.t 5)))⟩ ::
⟨(some 4), none, (.op (.mv (.t 13)))⟩ :: [])) .ret)))
def r64 : List ResultVar := [.tmp 4]
set_option maxRecDepth 1000000 in
set_option maxHeartbeats 4000000 in
theorem fun64 : Fun Try.prog 64 14 2 a64 r64 :=
  ⟨rfl, Try.f64, _, rfl, rfl, rfl, by decide, rfl, rfl, rfl⟩
/-- slices.Values[[]tumblehome/drag.bound,tumblehome/drag.bound] -/
noncomputable def a65 : ACode := (.seq (.reg (
    ⟨(some 1), none, (.op (.box (.t 0) 104))⟩ ::
⟨(some 2), none, (.op (.mv (.c (Value.nilFunc))))⟩ :: [])) (.seq (.reg (
    ⟨(some 3), none, (.op (.mkfn (Fn.func 73) [] [(.t 1)]))⟩ ::
⟨(some 2), none, (.op (.mv (.t 3)))⟩ :: [])) .ret))
def r65 : List ResultVar := [.tmp 2]
set_option maxRecDepth 1000000 in
set_option maxHeartbeats 4000000 in
theorem fun65 : Fun Try.prog 65 4 1 a65 r65 :=
  ⟨rfl, Try.f65, _, rfl, rfl, rfl, by decide, rfl, rfl, rfl⟩
/-- (tumblehome/drag.reckoner).coefficient$1 -/
noncomputable def a66 : ACode := (.seq (.reg (
    ⟨(some 4), none, (.op (.mv (.c (Value.int .i64 0))))⟩ :: [])) (.seq (.dreg (
    ⟨(some 5), none, (.op (.faddr 3 (.t 1)))⟩ ::
⟨(some 6), none, (.op (.load1 (.t 5)))⟩ ::
⟨(some 7), none, (.op (.int .add (.c (Value.int .i64 1000)) (.t 6)))⟩ ::
⟨(some 8), none, (.op (.load1 (.t 2)))⟩ ::
⟨(some 9), none, (.op (.mv (.t 0)))⟩ ::
⟨(some 10), none, (.call (.t 8) [(.t 9)])⟩ ::
⟨(some 11), none, (.op (.int .mul (.t 7) (.t 10)))⟩ ::
⟨(some 12), none, (.op (.idiv true (.t 11) (.c (Value.int .i64 1000))))⟩ ::
⟨(some 4), none, (.op (.mv (.t 12)))⟩ :: []) []) .ret))
def r66 : List ResultVar := [.tmp 4]
set_option maxRecDepth 1000000 in
set_option maxHeartbeats 4000000 in
theorem fun66 : Fun Try.prog 66 13 3 a66 r66 :=
  ⟨rfl, Try.f66, _, rfl, rfl, rfl, by decide, rfl, rfl, rfl⟩
/-- tumblehome/tumblehomeref04.inside -/
noncomputable def a67 : ACode := (.seq (.reg (
    ⟨(some 2), none, (.op (.box (.t 0) 24))⟩ ::
⟨(some 3), none, (.op (.box (.t 1) 33))⟩ ::
⟨(some 4), none, (.op (.mv (.c (Value.bool false))))⟩ :: [])) (.seq (.dreg (
    ⟨(some 5), none, (.op (.faddr 0 (.t 3)))⟩ ::
⟨(some 6), none, (.op (.load1 (.t 5)))⟩ ::
⟨(some 7), none, (.op (.faddr 0 (.t 2)))⟩ ::
⟨(some 8), none, (.op (.load1 (.t 7)))⟩ ::
⟨(some 9), none, (.op (.ixsl 1 (.t 8) (.c (Value.int .i64 0))))⟩ ::
⟨(some 10), none, (.op (.load1 (.t 9)))⟩ ::
⟨(some 11), none, (.op (.int .geq (.t 6) (.t 10)))⟩ ::
⟨(some 12), none, (.op (.mv (.t 11)))⟩ ::
⟨(some 13), (some (12, true)), (.op (.faddr 1 (.t 3)))⟩ ::
⟨(some 14), (some (12, true)), (.op (.load1 (.t 13)))⟩ ::
⟨(some 15), (some (12, true)), (.op (.faddr 0 (.t 2)))⟩ ::
⟨(some 16), (some (12, true)), (.op (.load1 (.t 15)))⟩ ::
⟨(some 17), (some (12, true)), (.op (.faddr 0 (.t 2)))⟩ ::
⟨(some 18), (some (12, true)), (.op (.load1 (.t 17)))⟩ ::
⟨(some 19), (some (12, true)), (.op (.len (.t 18)))⟩ ::
⟨(some 20), (some (12, true)), (.op (.int .sub (.t 19) (.c (Value.int .i64 1))))⟩ ::
⟨(some 21), (some (12, true)), (.op (.ixsl 1 (.t 16) (.t 20)))⟩ ::
⟨(some 22), (some (12, true)), (.op (.load1 (.t 21)))⟩ ::
⟨(some 23), (some (12, true)), (.op (.int .leq (.t 14) (.t 22)))⟩ ::
⟨(some 24), none, (.op (.pick (.t 12) (.t 23) (.c (Value.bool false))))⟩ ::
⟨(some 4), none, (.op (.mv (.t 24)))⟩ :: []) []) .ret))
def r67 : List ResultVar := [.tmp 4]
set_option maxRecDepth 1000000 in
set_option maxHeartbeats 4000000 in
theorem fun67 : Fun Try.prog 67 25 2 a67 r67 :=
  ⟨rfl, Try.f67, _, rfl, rfl, rfl, by decide, rfl, rfl, rfl⟩
/-- tumblehome/tumblehomeref04.end -/
noncomputable def a68 : ACode := (.seq (.reg (
    ⟨(some 3), none, (.op (.box (.t 0) 33))⟩ ::
⟨(some 6), none, (.op (.mv (.c (Value.int .i64 0))))⟩ :: [])) (.seq (.seq (.reg (
    ⟨(some 7), none, (.op (.mv (.t 1)))⟩ ::
⟨(some 8), none, (.op (.mv (.t 2)))⟩ ::
⟨(some 9), none, (.op (.pure (rawOp Try.f68 1 2)))⟩ ::
⟨(some 10), none, (.op (.idiv false (.t 9) (.c (Value.int .i64 2))))⟩ ::
⟨(some 11), none, (.op (.int .eql (.t 10) (.c (Value.int .i64 1))))⟩ :: [])) (.cond (.t 11) (.seq (.reg (
    ⟨(some 12), none, (.op (.faddr 1 (.t 3)))⟩ ::
⟨(some 13), none, (.op (.load1 (.t 12)))⟩ ::
⟨(some 6), none, (.op (.mv (.t 13)))⟩ :: [])) .ret) .skip)) (.seq (.reg (
    ⟨(some 14), none, (.op (.faddr 0 (.t 3)))⟩ ::
⟨(some 15), none, (.op (.load1 (.t 14)))⟩ ::
⟨(some 6), none, (.op (.mv (.t 15)))⟩ :: [])) .ret)))
def r68 : List ResultVar := [.tmp 6]
set_option maxRecDepth 1000000 in
set_option maxHeartbeats 4000000 in
theorem fun68 : Fun Try.prog 68 16 3 a68 r68 :=
  ⟨rfl, Try.f68, _, rfl, rfl, rfl, by decide, rfl, rfl, rfl⟩
/-- slices.ContainsFunc[[]tumblehome/api.DragLine,tumblehome/api.DragLine] -/
noncomputable def a69 : ACode := (.seq (.reg (
    ⟨(some 4), none, (.op (.mv (.c (Value.bool false))))⟩ :: [])) (.seq (.reg (
    ⟨(some 5), none, (.op (.mv (.t 0)))⟩ ::
⟨(some 6), none, (.op (.mv (.t 1)))⟩ ::
⟨(some 7), none, (.call (.c (Value.func (.func 74) #[] #[])) [(.t 5), (.t 6)])⟩ ::
⟨(some 8), none, (.op (.int .geq (.t 7) (.c (Value.int .i64 0))))⟩ ::
⟨(some 4), none, (.op (.mv (.t 8)))⟩ :: [])) .ret))
def r69 : List ResultVar := [.tmp 4]
set_option maxRecDepth 1000000 in
set_option maxHeartbeats 4000000 in
theorem fun69 : Fun Try.prog 69 9 2 a69 r69 :=
  ⟨rfl, Try.f69, _, rfl, rfl, rfl, by decide, rfl, rfl, rfl⟩
/-- tumblehome/drag.reckon$1 -/
noncomputable def a70 : ACode := (.seq (.reg (
    ⟨(some 2), none, (.op (.box (.t 0) 24))⟩ ::
⟨(some 3), none, (.op (.mv (.c (Value.bool false))))⟩ :: [])) (.seq (.reg (
    ⟨(some 4), none, (.op (.loadn 16 (.t 1)))⟩ ::
⟨(some 5), none, (.op (.loadn 2 (.t 2)))⟩ ::
⟨(some 6), none, (.op (.build [Value.slice none 0 0, Value.slice none 0 0] [(0, 2, (.t 5))]))⟩ ::
⟨(some 7), none, (.call (.c (Value.func (.func 71) #[] #[])) [(.t 4), (.t 6)])⟩ ::
⟨(some 8), none, (.op (.not (.t 7)))⟩ ::
⟨(some 3), none, (.op (.mv (.t 8)))⟩ :: [])) .ret))
def r70 : List ResultVar := [.tmp 3]
set_option maxRecDepth 1000000 in
set_option maxHeartbeats 4000000 in
theorem fun70 : Fun Try.prog 70 9 2 a70 r70 :=
  ⟨rfl, Try.f70, _, rfl, rfl, rfl, by decide, rfl, rfl, rfl⟩
/-- (tumblehome/drag.reckoner).reckons -/
noncomputable def a71 : ACode := (.seq (.reg (
    ⟨(some 2), none, (.op (.box (.t 0) 82))⟩ ::
⟨(some 3), none, (.op (.box (.t 1) 67))⟩ ::
⟨(some 4), none, (.op (.mv (.c (Value.bool false))))⟩ :: [])) (.seq (.reg (
    ⟨(some 6), none, (.op (.loadn 16 (.t 2)))⟩ ::
⟨(some 7), none, (.call (.c (Value.func (.func 45) #[] #[])) [(.t 6)])⟩ ::
⟨(some 5), none, (.op (.alloc [Value.int .i64 0, Value.int .i64 0, Value.int .i64 0, Value.int .i64 0] 80))⟩ ::
⟨none, none, (.op (.store 4 (.t 5) (.t 7)))⟩ :: [])) (.seq (.reg (
    ⟨(some 8), none, (.op (.loadn 2 (.t 3)))⟩ ::
⟨(some 9), none, (.op (.ixarr 2 2 (.t 5) (.c (Value.int .i64 0))))⟩ ::
⟨(some 10), none, (.op (.loadn 2 (.t 9)))⟩ ::
⟨(some 11), none, (.call (.c (Value.func (.func 38) #[] #[])) [(.t 8), (.t 10)])⟩ ::
⟨(some 12), none, (.op (.mv (.t 11)))⟩ ::
⟨(some 13), (some (12, true)), (.op (.loadn 2 (.t 3)))⟩ ::
⟨(some 14), (some (12, true)), (.op (.ixarr 2 2 (.t 5) (.c (Value.int .i64 1))))⟩ ::
⟨(some 15), (some (12, true)), (.op (.loadn 2 (.t 14)))⟩ ::
⟨(some 16), (some (12, true)), (.call (.c (Value.func (.func 38) #[] #[])) [(.t 13), (.t 15)])⟩ ::
⟨(some 17), none, (.op (.pick (.t 12) (.t 16) (.c (Value.bool false))))⟩ ::
⟨(some 4), none, (.op (.mv (.t 17)))⟩ :: [])) .ret)))
def r71 : List ResultVar := [.tmp 4]
set_option maxRecDepth 1000000 in
set_option maxHeartbeats 4000000 in
theorem fun71 : Fun Try.prog 71 18 2 a71 r71 :=
  ⟨rfl, Try.f71, _, rfl, rfl, rfl, by decide, rfl, rfl, rfl⟩
/-- slices.BinarySearch[[]int64,int64] -/
noncomputable def a72 : ACode := (.seq (.reg (
    ⟨(some 4), none, (.op (.mv (.c (Value.int .i64 0))))⟩ ::
⟨(some 5), none, (.op (.mv (.c (Value.bool false))))⟩ :: [])) (.seq (.reg (
    ⟨(some 10), none, (.op (.mv (.t 0)))⟩ ::
⟨(some 11), none, (.op (.len (.t 10)))⟩ ::
⟨(some 6), none, (.op (.mv (.t 11)))⟩ :: [])) (.seq (.reg (
    ⟨(some 12), none, (.op (.mv (.t 6)))⟩ ::
⟨(some 7), none, (.op (.mv (.c (Value.int .i64 0))))⟩ ::
⟨(some 8), none, (.op (.mv (.t 12)))⟩ :: [])) (.seq (.block 0 (.loop (.seq (.seq (.reg (
    ⟨(some 13), none, (.op (.mv (.t 7)))⟩ ::
⟨(some 14), none, (.op (.mv (.t 8)))⟩ ::
⟨(some 15), none, (.op (.int .lss (.t 13) (.t 14)))⟩ :: [])) (.cond (.t 15) .skip (.exit 0))) (.block 1 (.seq (.reg (
    ⟨(some 16), none, (.op (.mv (.t 7)))⟩ ::
⟨(some 17), none, (.op (.mv (.t 8)))⟩ ::
⟨(some 18), none, (.op (.int .add (.t 16) (.t 17)))⟩ ::
⟨(some 19), none, (.op (.conv .u64 (.t 18)))⟩ ::
⟨(some 20), none, (.op (.pure (rawOp Try.f72 4 4)))⟩ ::
⟨(some 21), none, (.op (.conv .i64 (.t 20)))⟩ ::
⟨(some 9), none, (.op (.mv (.t 21)))⟩ :: [])) (.seq (.reg (
    ⟨(some 22), none, (.op (.mv (.t 0)))⟩ ::
⟨(some 23), none, (.op (.mv (.t 9)))⟩ ::
⟨(some 24), none, (.op (.ixsl 1 (.t 22) (.t 23)))⟩ ::
⟨(some 25), none, (.op (.load1 (.t 24)))⟩ ::
⟨(some 26), none, (.op (.mv (.t 1)))⟩ ::
⟨(some 27), none, (.call (.c (Value.func (.func 75) #[] #[])) [(.t 25), (.t 26)])⟩ :: [])) (.cond (.t 27) (.reg (
    ⟨(some 28), none, (.op (.mv (.t 9)))⟩ ::
⟨(some 29), none, (.op (.int .add (.t 28) (.c (Value.int .i64 1))))⟩ ::
⟨(some 7), none, (.op (.mv (.t 29)))⟩ :: [])) (.reg (
    ⟨(some 30), none, (.op (.mv (.t 9)))⟩ ::
⟨(some 8), none, (.op (.mv (.t 30)))⟩ :: []))))))))) (.seq (.reg (
    ⟨(some 31), none, (.op (.mv (.t 7)))⟩ ::
⟨(some 32), none, (.op (.mv (.t 7)))⟩ ::
⟨(some 33), none, (.op (.mv (.t 6)))⟩ ::
⟨(some 34), none, (.op (.int .lss (.t 32) (.t 33)))⟩ ::
⟨(some 35), none, (.op (.mv (.t 34)))⟩ ::
⟨(some 36), (some (35, true)), (.op (.mv (.t 0)))⟩ ::
⟨(some 37), (some (35, true)), (.op (.mv (.t 7)))⟩ ::
⟨(some 38), (some (35, true)), (.op (.ixsl 1 (.t 36) (.t 37)))⟩ ::
⟨(some 39), (some (35, true)), (.op (.load1 (.t 38)))⟩ ::
⟨(some 40), (some (35, true)), (.op (.mv (.t 1)))⟩ ::
⟨(some 41), (some (35, true)), (.op (.int .eql (.t 39) (.t 40)))⟩ ::
⟨(some 42), (some (35, true)), (.op (.mv (.t 41)))⟩ ::
⟨(some 43), (some (42, false)), (.op (.mv (.t 0)))⟩ ::
⟨(some 44), (some (42, false)), (.op (.mv (.t 7)))⟩ ::
⟨(some 45), (some (42, false)), (.op (.ixsl 1 (.t 43) (.t 44)))⟩ ::
⟨(some 46), (some (42, false)), (.op (.load1 (.t 45)))⟩ ::
⟨(some 47), (some (42, false)), (.call (.c (Value.func (.func 76) #[] #[])) [(.t 46)])⟩ ::
⟨(some 48), (some (42, false)), (.op (.mv (.t 47)))⟩ ::
⟨(some 49), (some (48, true)), (.op (.mv (.t 1)))⟩ ::
⟨(some 50), (some (48, true)), (.call (.c (Value.func (.func 76) #[] #[])) [(.t 49)])⟩ ::
⟨(some 51), (some (42, false)), (.op (.pick (.t 48) (.t 50) (.c (Value.bool false))))⟩ ::
⟨(some 52), (some (35, true)), (.op (.pick (.t 42) (.c (Value.bool true)) (.t 51)))⟩ ::
⟨(some 53), none, (.op (.pick (.t 35) (.t 52) (.c (Value.bool false))))⟩ ::
⟨(some 4), none, (.op (.mv (.t 31)))⟩ ::
⟨(some 5), none, (.op (.mv (.t 53)))⟩ :: [])) .ret)))))
def r72 : List ResultVar := [.tmp 4, .tmp 5]
set_option maxRecDepth 1000000 in
set_option maxHeartbeats 4000000 in
theorem fun72 : Fun Try.prog 72 54 2 a72 r72 :=
  ⟨rfl, Try.f72, _, rfl, rfl, rfl, by decide, rfl, rfl, rfl⟩
/-- slices.Values[[]tumblehome/drag.bound,tumblehome/drag.bound]$1 -/
noncomputable def a73 : ACode := (.seq (.reg (
    ⟨(some 5), none, (.op (.load1 (.t 1)))⟩ ::
⟨(some 6), none, (.op (.len (.t 5)))⟩ ::
⟨(some 7), none, (.op (.mv (.c (Value.int .i64 0))))⟩ :: [])) (.block 0 (.loop (.seq (.reg (
    ⟨(some 8), none, (.op (.int .lss (.t 7) (.t 6)))⟩ :: [])) (.seq (.cond (.t 8) .skip (.exit 0)) (.seq (.block 1 (.seq (.reg (
    ⟨(some 9), none, (.op (.ixsl 4 (.t 5) (.t 7)))⟩ ::
⟨(some 10), none, (.op (.loadn 4 (.t 9)))⟩ ::
⟨(some 4), none, (.op (.alloc [Value.int .i64 0, Value.int .i64 0, Value.int .i64 0, Value.int .i64 0] 77))⟩ ::
⟨none, none, (.op (.store 4 (.t 4) (.t 10)))⟩ :: [])) (.seq (.reg (
    ⟨(some 11), none, (.op (.mv (.t 0)))⟩ ::
⟨(some 12), none, (.op (.loadn 4 (.t 4)))⟩ ::
⟨(some 13), none, (.call (.t 11) [(.t 12)])⟩ ::
⟨(some 14), none, (.op (.not (.t 13)))⟩ :: [])) (.cond (.t 14) .ret .skip)))) (.reg (
    ⟨(some 15), none, (.op (.int .add (.t 7) (.c (Value.int .i64 1))))⟩ ::
⟨(some 7), none, (.op (.mv (.t 15)))⟩ :: []))))))))
def r73 : List ResultVar := []
set_option maxRecDepth 1000000 in
set_option maxHeartbeats 4000000 in
theorem fun73 : Fun Try.prog 73 16 2 a73 r73 :=
  ⟨rfl, Try.f73, _, rfl, rfl, rfl, by decide, rfl, rfl, rfl⟩
/-- slices.IndexFunc[[]tumblehome/api.DragLine,tumblehome/api.DragLine] -/
noncomputable def a74 : ACode := (.seq (.reg (
    ⟨(some 4), none, (.op (.mv (.c (Value.int .i64 0))))⟩ :: [])) (.seq (.seq (.reg (
    ⟨(some 6), none, (.op (.mv (.t 0)))⟩ ::
⟨(some 7), none, (.op (.len (.t 6)))⟩ ::
⟨(some 8), none, (.op (.mv (.c (Value.int .i64 0))))⟩ :: [])) (.block 0 (.loop (.seq (.reg (
    ⟨(some 9), none, (.op (.int .lss (.t 8) (.t 7)))⟩ :: [])) (.seq (.cond (.t 9) .skip (.exit 0)) (.seq (.block 1 (.seq (.reg (
    ⟨(some 10), none, (.op (.mv (.t 8)))⟩ ::
⟨(some 5), none, (.op (.mv (.t 10)))⟩ :: [])) (.seq (.reg (
    ⟨(some 11), none, (.op (.mv (.t 1)))⟩ ::
⟨(some 12), none, (.op (.mv (.t 0)))⟩ ::
⟨(some 13), none, (.op (.mv (.t 5)))⟩ ::
⟨(some 14), none, (.op (.ixsl 2 (.t 12) (.t 13)))⟩ ::
⟨(some 15), none, (.op (.loadn 2 (.t 14)))⟩ ::
⟨(some 16), none, (.call (.t 11) [(.t 15)])⟩ :: [])) (.cond (.t 16) (.seq (.reg (
    ⟨(some 17), none, (.op (.mv (.t 5)))⟩ ::
⟨(some 4), none, (.op (.mv (.t 17)))⟩ :: [])) .ret) .skip)))) (.reg (
    ⟨(some 18), none, (.op (.int .add (.t 8) (.c (Value.int .i64 1))))⟩ ::
⟨(some 8), none, (.op (.mv (.t 18)))⟩ :: [])))))))) (.seq (.reg (
    ⟨(some 4), none, (.op (.mv (.c (Value.int .i64 (-1)))))⟩ :: [])) .ret)))
def r74 : List ResultVar := [.tmp 4]
set_option maxRecDepth 1000000 in
set_option maxHeartbeats 4000000 in
theorem fun74 : Fun Try.prog 74 19 2 a74 r74 :=
  ⟨rfl, Try.f74, _, rfl, rfl, rfl, by decide, rfl, rfl, rfl⟩
/-- cmp.Less[int64] -/
noncomputable def a75 : ACode := (.seq (.reg (
    ⟨(some 4), none, (.op (.mv (.c (Value.bool false))))⟩ :: [])) (.seq (.reg (
    ⟨(some 5), none, (.op (.mv (.t 0)))⟩ ::
⟨(some 6), none, (.call (.c (Value.func (.func 77) #[] #[])) [(.t 5)])⟩ ::
⟨(some 7), none, (.op (.mv (.t 6)))⟩ ::
⟨(some 8), (some (7, true)), (.op (.mv (.t 1)))⟩ ::
⟨(some 9), (some (7, true)), (.call (.c (Value.func (.func 77) #[] #[])) [(.t 8)])⟩ ::
⟨(some 10), (some (7, true)), (.op (.not (.t 9)))⟩ ::
⟨(some 11), none, (.op (.pick (.t 7) (.t 10) (.c (Value.bool false))))⟩ ::
⟨(some 12), none, (.op (.mv (.t 11)))⟩ ::
⟨(some 13), (some (12, false)), (.op (.mv (.t 0)))⟩ ::
⟨(some 14), (some (12, false)), (.op (.mv (.t 1)))⟩ ::
⟨(some 15), (some (12, false)), (.op (.int .lss (.t 13) (.t 14)))⟩ ::
⟨(some 16), none, (.op (.pick (.t 12) (.c (Value.bool true)) (.t 15)))⟩ ::
⟨(some 4), none, (.op (.mv (.t 16)))⟩ :: [])) .ret))
def r75 : List ResultVar := [.tmp 4]
set_option maxRecDepth 1000000 in
set_option maxHeartbeats 4000000 in
theorem fun75 : Fun Try.prog 75 17 2 a75 r75 :=
  ⟨rfl, Try.f75, _, rfl, rfl, rfl, by decide, rfl, rfl, rfl⟩
/-- slices.isNaN[int64] -/
noncomputable def a76 : ACode := (.seq (.reg (
    ⟨(some 2), none, (.op (.mv (.c (Value.bool false))))⟩ :: [])) (.seq (.reg (
    ⟨(some 3), none, (.op (.mv (.t 0)))⟩ ::
⟨(some 4), none, (.op (.mv (.t 0)))⟩ ::
⟨(some 5), none, (.op (.int .neq (.t 3) (.t 4)))⟩ ::
⟨(some 2), none, (.op (.mv (.t 5)))⟩ :: [])) .ret))
def r76 : List ResultVar := [.tmp 2]
set_option maxRecDepth 1000000 in
set_option maxHeartbeats 4000000 in
theorem fun76 : Fun Try.prog 76 6 1 a76 r76 :=
  ⟨rfl, Try.f76, _, rfl, rfl, rfl, by decide, rfl, rfl, rfl⟩
/-- cmp.isNaN[int64] -/
noncomputable def a77 : ACode := (.seq (.reg (
    ⟨(some 2), none, (.op (.mv (.c (Value.bool false))))⟩ :: [])) (.seq (.reg (
    ⟨(some 3), none, (.op (.mv (.t 0)))⟩ ::
⟨(some 4), none, (.op (.mv (.t 0)))⟩ ::
⟨(some 5), none, (.op (.int .neq (.t 3) (.t 4)))⟩ ::
⟨(some 2), none, (.op (.mv (.t 5)))⟩ :: [])) .ret))
def r77 : List ResultVar := [.tmp 2]
set_option maxRecDepth 1000000 in
set_option maxHeartbeats 4000000 in
theorem fun77 : Fun Try.prog 77 6 1 a77 r77 :=
  ⟨rfl, Try.f77, _, rfl, rfl, rfl, by decide, rfl, rfl, rfl⟩
end AE.Try
