/- Walks and plain laws: AEToD, T9R154. -/
import Derived.Test.YtneenfjffejnoaaGreatAEMemo
import Derived.Test.YtneenfjffejnoaaGreatJoin4
set_option linter.unusedVariables false
set_option linter.unusedSimpArgs false
set_option linter.unusedSectionVars false

/- Code whose calls come to one end each, as code that may come to many. -/
set_option linter.unusedVariables false
namespace AE
open Go
def noRange : ACode → Bool
 | .seq a b => noRange a && noRange b
 | .cond _ a b => noRange a && noRange b
 | .block _ c => noRange c
 | .loop c => noRange c
 | .range _ _ _ _ _ _ _ => false
 | _ => true
theorem Run.toD {P : Program} {lo base : Nat} {K : Ts → H → Prop} : ∀ {xs : List AOper} {i : Nat} {ts : Ts} {h : H}, Run P lo false base i xs K ts h → RunD P lo base i xs K ts h
 | [], _, _, _, h => h
 | o :: rest, i, ts, h, hr => by
   simp only [Run] at hr
   simp only [RunD]
   split
   ·rename_i hw
    rw [if_pos hw] at hr
    cases hi : o.ins with
    | op ao =>
      rw [hi] at hr
      obtain ⟨v, h', ha, hr⟩ := hr
      exact ⟨v, h', ha, Run.toD hr⟩
    | call f args =>
      rw [hi] at hr
      obtain ⟨v, h', ha, hr⟩ := hr
      refine ⟨fun o c ro a I w K Q ho ef eas k iF ias hK => ?_⟩
      exact ha.run o c ro a I w K Q ho ef eas k iF ias fun J w' hw iv => hK v h' J w' (Run.toD hr) ha.quiet hw iv
   ·rename_i hw
    rw [if_neg hw] at hr
    exact Run.toD hr
theorem wpA.toD {P : Program} {lo : Nat} : ∀ (A : ACode) {Q : Exit → Ts → H → Prop}, noRange A = true → ∀ ts h, wpA P lo A Q ts h → wpD P lo A Q ts h
 | .skip, _, _, ts, h, w => w
 | .ret, _, _, ts, h, w => w
 | .exit _, _, _, ts, h, w => w
 | .seq a b, Q, hn, ts, h, w => by
   simp only [noRange, Bool.and_eq_true] at hn
   refine AE.KerD.wpD_mono a (Q := thenQ (wpA P lo b Q) Q) (fun e ts h x => ?_) ts h (wpA.toD a hn.1 ts h w)
   cases e <;> first | exact wpA.toD b hn.2 _ _ x | exact x
 | .cond c a b, Q, hn, ts, h, w => by
   simp only [noRange, Bool.and_eq_true] at hn
   obtain ⟨t, e, w⟩ := w
   refine ⟨t, e, ?_⟩
   split
   ·rename_i ht; rw [if_pos ht] at w; exact wpA.toD a hn.1 _ _ w
   ·rename_i ht; rw [if_neg ht] at w; exact wpA.toD b hn.2 _ _ w
 | .block id c, Q, hn, ts, h, w => wpA.toD c (Q := blockQ id Q) hn ts h w
 | .loop c, Q, hn, ts, h, w => by
   obtain ⟨k, w⟩ := w
   refine ⟨k, iter_mono (fun K K' hK ts h x => ?_) k ts h w⟩
   refine AE.KerD.wpD_mono c (Q := thenQ K Q) (fun e ts h y => ?_) ts h (wpA.toD c hn ts h x)
   cases e <;> first | exact hK _ _ y | exact y
 | .reg ops, Q, _, ts, h, w => Run.toD w
 | .dreg ops ap, Q, _, ts, h, w => w
 | .next x a b, Q, _, ts, h, w => w
 | .range _ _ _ _ _ _ _, _, hn, _, _, _ => by simp [noRange] at hn
def seqs : List ACode → ACode
 | [] => .skip
 | [a] => a
 | a :: b :: l => .seq a (seqs (b :: l))
def seqTo : List ACode → ACode → ACode
 | [], r => r
 | a :: l, r => .seq a (seqTo l r)
theorem wpD_seqTo {P : Program} {lo : Nat} {Q : Exit → Ts → H → Prop} {r : ACode} : ∀ {l : List ACode} {ts : Ts} {h : H}, wpD P lo (seqs l) (fun e ts h => e = .normal ∧ wpD P lo r Q ts h) ts h → wpD P lo (seqTo l r) Q ts h
 | [], ts, h, w => w.2
 | [a], ts, h, w => AE.KerD.wpD_mono a (fun e ts h x => by obtain ⟨rfl, x⟩ := x; exact x) ts h w
 | a :: b :: l, ts, h, w => AE.KerD.wpD_mono a (fun e ts h x => by
  cases e <;> first | exact wpD_seqTo x | exact absurd x.1 (by simp)) ts h w
end AE

/- The code of run.CheckTable in two: what comes ahead of its range over a map, and the rest. -/
namespace AE.Tryz
open Go AE Go.Proofs
set_option maxRecDepth 1000000
noncomputable def p154 : List ACode := [
(.reg (
 ⟨(some 2), none, (.op (.box (.t 0) 254))⟩ ::
 ⟨(some 4), none, (.op (.mv (.c (Value.int .i64 0))))⟩ ::
 ⟨(some 5), none, (.op (.mv (.c (Value.int .i64 0))))⟩ :: [])),
(.reg (
 ⟨(some 19), none, (.op (.loadn 3 (.t 2)))⟩ ::
 ⟨(some 20), none, (.call (.c (Value.func (.func 249) #[] #[])) [(.t 19)])⟩ ::
 ⟨(some 18), none, (.op (.mv (.t 20)))⟩ ::
 ⟨(some 21), none, (.op (.extract (.t 18) 0))⟩ ::
 ⟨(some 22), none, (.op (.extract (.t 18) 1))⟩ ::
 ⟨(some 6), none, (.op (.mv (.t 21)))⟩ ::
 ⟨(some 7), none, (.op (.mv (.t 22)))⟩ :: [])),
(.reg (
 ⟨(some 23), none, (.op (.faddr 2 (.t 2)))⟩ ::
 ⟨(some 24), none, (.op (.load1 (.t 23)))⟩ ::
 ⟨(some 25), none, (.op (.len (.t 24)))⟩ ::
 ⟨(some 8), none, (.op (.mv (.t 25)))⟩ :: [])),
(.block 0 (.seq (.reg (
 ⟨(some 27), none, (.op (.mv (.t 7)))⟩ ::
 ⟨(some 28), none, (.op (.int .neq (.t 27) (.c (Value.int .i64 0))))⟩ ::
 ⟨(some 26), none, (.op (.mv (.t 28)))⟩ :: [])) (.cond (.t 26) (.seq (.reg (
 ⟨(some 29), none, (.op (.mv (.t 7)))⟩ ::
 ⟨(some 4), none, (.op (.mv (.c (Value.int .i64 0))))⟩ ::
 ⟨(some 5), none, (.op (.mv (.t 29)))⟩ :: [])) .ret) (.seq (.reg (
 ⟨(some 31), none, (.op (.mv (.t 1)))⟩ ::
 ⟨(some 32), none, (.op (.len (.t 31)))⟩ ::
 ⟨(some 33), none, (.op (.mv (.t 8)))⟩ ::
 ⟨(some 34), none, (.op (.mv (.t 8)))⟩ ::
 ⟨(some 35), none, (.op (.pure (rawOp Tryz.f154 5 4)))⟩ ::
 ⟨(some 36), none, (.op (.int .neq (.t 32) (.t 35)))⟩ ::
 ⟨(some 30), none, (.op (.mv (.t 36)))⟩ :: [])) (.cond (.t 30) (.seq (.reg (
 ⟨(some 4), none, (.op (.mv (.c (Value.int .i64 0))))⟩ ::
 ⟨(some 5), none, (.op (.mv (.c (Value.int .i64 15))))⟩ :: [])) .ret) (.seq (.reg (
 ⟨(some 38), none, (.op (.mv (.t 1)))⟩ ::
 ⟨(some 39), none, (.call (.c (Value.func (.func 223) #[] #[])) [(.t 38)])⟩ ::
 ⟨(some 40), none, (.op (.int .lss (.t 39) (.c (Value.int .i64 0))))⟩ ::
 ⟨(some 41), none, (.op (.mv (.t 40)))⟩ ::
 ⟨(some 42), (some (41, false)), (.op (.mv (.t 1)))⟩ ::
 ⟨(some 43), (some (41, false)), (.call (.c (Value.func (.func 224) #[] #[])) [(.t 42)])⟩ ::
 ⟨(some 44), (some (41, false)), (.op (.int .gtr (.t 43) (.c (Value.int .i64 1048576))))⟩ ::
 ⟨(some 45), none, (.op (.pick (.t 41) (.c (Value.bool true)) (.t 44)))⟩ ::
 ⟨(some 37), none, (.op (.mv (.t 45)))⟩ :: [])) (.cond (.t 37) (.seq (.reg (
 ⟨(some 4), none, (.op (.mv (.c (Value.int .i64 0))))⟩ ::
 ⟨(some 5), none, (.op (.mv (.c (Value.int .i64 3))))⟩ :: [])) .ret) .skip))))))),
(.reg (
 ⟨(some 46), none, (.op (.mkmap))⟩ ::
 ⟨(some 9), none, (.op (.mv (.t 46)))⟩ :: [])),
(.seq (.reg (
 ⟨(some 47), none, (.op (.mv (.t 1)))⟩ ::
 ⟨(some 48), none, (.op (.len (.t 47)))⟩ ::
 ⟨(some 49), none, (.op (.mv (.c (Value.int .i64 0))))⟩ :: [])) (.block 1 (.loop (.seq (.reg (
 ⟨(some 50), none, (.op (.int .lss (.t 49) (.t 48)))⟩ :: [])) (.seq (.cond (.t 50) .skip (.exit 1)) (.seq (.block 2 (.seq (.reg (
 ⟨(some 51), none, (.op (.mv (.t 49)))⟩ ::
 ⟨(some 52), none, (.op (.ixsl 1 (.t 47) (.t 49)))⟩ ::
 ⟨(some 53), none, (.op (.load1 (.t 52)))⟩ ::
 ⟨(some 10), none, (.op (.mv (.t 51)))⟩ ::
 ⟨(some 11), none, (.op (.mv (.t 53)))⟩ :: [])) (.dreg (
 ⟨(some 54), none, (.op (.mv (.t 9)))⟩ ::
 ⟨(some 55), none, (.op (.mv (.t 10)))⟩ ::
 ⟨(some 56), none, (.op (.mv (.t 8)))⟩ ::
 ⟨(some 57), none, (.op (.idiv true (.t 55) (.t 56)))⟩ ::
 ⟨(some 58), none, (.op (.mv (.t 10)))⟩ ::
 ⟨(some 59), none, (.op (.mv (.t 8)))⟩ ::
 ⟨(some 60), none, (.op (.idiv false (.t 58) (.t 59)))⟩ ::
 ⟨(some 61), none, (.op (.build [Value.int .i64 0, Value.int .i64 0] [(0, 1, (.t 57)), (1, 1, (.t 60))]))⟩ ::
 ⟨(some 62), none, (.op (.mv (.t 11)))⟩ ::
 ⟨none, none, (.op (.mapup 383 (.t 54) (.t 61) (.t 62)))⟩ :: []) []))) (.reg (
 ⟨(some 63), none, (.op (.int .add (.t 49) (.c (Value.int .i64 1))))⟩ ::
 ⟨(some 49), none, (.op (.mv (.t 63)))⟩ :: [])))))))),
(.reg (
 ⟨(some 12), none, (.op (.mv (.c (Value.int .i64 0))))⟩ :: [])),
(.reg (
 ⟨(some 64), none, (.op (.build [Value.int .i64 0, Value.int .i64 0] [(0, 1, (.c (Value.int .i64 0))), (1, 1, (.c (Value.int .i64 0)))]))⟩ ::
 ⟨(some 13), none, (.op (.alloc [Value.int .i64 0, Value.int .i64 0] 383))⟩ ::
 ⟨none, none, (.op (.store 2 (.t 13) (.t 64)))⟩ :: [])),
(.reg (
 ⟨(some 65), none, (.op (.loadn 2 (.t 13)))⟩ ::
 ⟨(some 14), none, (.op (.alloc [Value.int .i64 0, Value.int .i64 0] 383))⟩ ::
 ⟨none, none, (.op (.store 2 (.t 14) (.t 65)))⟩ :: [])),
.skip]
noncomputable def r154 : ACode := (.seq (.seq (.reg (
 ⟨(some 66), none, (.op (.mv (.t 9)))⟩ ::
 ⟨(some 67), none, (.op (.mrange (.t 66)))⟩ :: [])) (.block 3 (.loop (.seq (.next (.t 67) 68 69) (.seq (.cond (.t 69) .skip (.exit 3)) (.block 4 (.seq (.reg (
 ⟨(some 70), none, (.op (.entry (.t 67)))⟩ ::
 ⟨(some 71), none, (.op (.extract (.t 70) 0))⟩ ::
 ⟨(some 72), none, (.op (.extract (.t 70) 1))⟩ ::
 ⟨(some 15), none, (.op (.alloc [Value.int .i64 0, Value.int .i64 0] 383))⟩ ::
 ⟨none, none, (.op (.store 2 (.t 15) (.t 71)))⟩ ::
 ⟨(some 16), none, (.op (.mv (.t 72)))⟩ :: [])) (.seq (.reg (
 ⟨(some 73), none, (.op (.faddr 0 (.t 15)))⟩ ::
 ⟨(some 74), none, (.op (.load1 (.t 73)))⟩ ::
 ⟨(some 75), none, (.op (.faddr 1 (.t 15)))⟩ ::
 ⟨(some 76), none, (.op (.load1 (.t 75)))⟩ ::
 ⟨(some 77), none, (.op (.pure (rawOp Tryz.f154 21 4)))⟩ ::
 ⟨(some 78), none, (.op (.pure (rawOp Tryz.f154 21 5)))⟩ ::
 ⟨(some 79), none, (.op (.int .eql (.t 78) (.c (Value.int .i64 1))))⟩ ::
 ⟨(some 17), none, (.op (.mv (.t 79)))⟩ :: [])) (.block 5 (.seq (.reg (
 ⟨(some 81), none, (.op (.mv (.t 17)))⟩ ::
 ⟨(some 82), none, (.op (.not (.t 81)))⟩ ::
 ⟨(some 83), none, (.op (.mv (.t 82)))⟩ ::
 ⟨(some 84), (some (83, true)), (.op (.mv (.t 16)))⟩ ::
 ⟨(some 85), (some (83, true)), (.op (.int .neq (.t 84) (.c (Value.int .i64 1048576))))⟩ ::
 ⟨(some 86), none, (.op (.pick (.t 83) (.t 85) (.c (Value.bool false))))⟩ ::
 ⟨(some 87), none, (.op (.mv (.t 86)))⟩ ::
 ⟨(some 88), (some (87, false)), (.op (.mv (.t 17)))⟩ ::
 ⟨(some 89), (some (87, false)), (.op (.mv (.t 88)))⟩ ::
 ⟨(some 90), (some (89, true)), (.op (.mv (.t 16)))⟩ ::
 ⟨(some 91), (some (89, true)), (.op (.mv (.t 6)))⟩ ::
 ⟨(some 92), (some (89, true)), (.op (.mv (.t 9)))⟩ ::
 ⟨(some 93), (some (89, true)), (.op (.loadn 2 (.t 15)))⟩ ::
 ⟨(some 94), (some (89, true)), (.call (.c (Value.func (.func 256) #[] #[])) [(.t 91), (.t 92), (.t 93)])⟩ ::
 ⟨(some 95), (some (89, true)), (.op (.int .gtr (.t 90) (.t 94)))⟩ ::
 ⟨(some 96), (some (87, false)), (.op (.pick (.t 89) (.t 95) (.c (Value.bool false))))⟩ ::
 ⟨(some 97), none, (.op (.pick (.t 87) (.c (Value.bool true)) (.t 96)))⟩ ::
 ⟨(some 80), none, (.op (.mv (.t 97)))⟩ :: [])) (.cond (.t 80) (.seq (.reg (
 ⟨(some 98), none, (.op (.faddr 0 (.t 15)))⟩ ::
 ⟨(some 99), none, (.op (.load1 (.t 98)))⟩ ::
 ⟨(some 100), none, (.op (.faddr 1 (.t 15)))⟩ ::
 ⟨(some 101), none, (.op (.load1 (.t 100)))⟩ ::
 ⟨(some 102), none, (.op (.int .add (.t 101) (.c (Value.int .i64 1))))⟩ ::
 ⟨(some 103), none, (.op (.build [Value.int .i64 0, Value.int .i64 0] [(0, 1, (.t 99)), (1, 1, (.t 102))]))⟩ ::
 ⟨none, none, (.op (.store 2 (.t 14) (.t 103)))⟩ :: [])) (.exit 3)) (.seq (.reg (
 ⟨(some 105), none, (.op (.mv (.t 17)))⟩ ::
 ⟨(some 106), none, (.op (.mv (.t 105)))⟩ ::
 ⟨(some 107), (some (106, true)), (.op (.mv (.t 16)))⟩ ::
 ⟨(some 108), (some (106, true)), (.op (.int .lss (.t 107) (.c (Value.int .i64 1048576))))⟩ ::
 ⟨(some 109), none, (.op (.pick (.t 106) (.t 108) (.c (Value.bool false))))⟩ ::
 ⟨(some 104), none, (.op (.mv (.t 109)))⟩ :: [])) (.cond (.t 104) (.reg (
 ⟨(some 110), none, (.op (.mv (.t 12)))⟩ ::
 ⟨(some 111), none, (.op (.faddr 0 (.t 15)))⟩ ::
 ⟨(some 112), none, (.op (.load1 (.t 111)))⟩ ::
 ⟨(some 113), none, (.op (.conv .u64 (.t 112)))⟩ ::
 ⟨(some 114), none, (.call (.c (Value.func (.func 257) #[] #[])) [(.t 113)])⟩ ::
 ⟨(some 115), none, (.op (.mnmx true (.t 110) (.t 114)))⟩ ::
 ⟨(some 12), none, (.op (.mv (.t 115)))⟩ :: [])) .skip))))))))))))) (.seq (.seq (.reg (
 ⟨(some 116), none, (.op (.loadn 2 (.t 14)))⟩ ::
 ⟨(some 117), none, (.op (.loadn 2 (.t 13)))⟩ ::
 ⟨(some 118), none, (.op (.pure (rawOp Tryz.f154 26 2)))⟩ :: [])) (.cond (.t 118) (.seq (.reg (
 ⟨(some 4), none, (.op (.mv (.c (Value.int .i64 0))))⟩ ::
 ⟨(some 5), none, (.op (.mv (.c (Value.int .i64 14))))⟩ :: [])) .ret) .skip)) (.seq (.reg (
 ⟨(some 119), none, (.op (.mv (.t 12)))⟩ ::
 ⟨(some 4), none, (.op (.mv (.t 119)))⟩ ::
 ⟨(some 5), none, (.op (.mv (.c (Value.int .i64 0))))⟩ :: [])) .ret)))
def y154 : List ResultVar := [.tmp 4, .tmp 5]
set_option maxHeartbeats 4000000 in
theorem funx154 : FunX Tryz.prog 154 120 2 (seqTo p154 r154) y154 :=
 ⟨rfl, nds, Tryz.f154, _, rfl, rfl, rfl, by decide, rfl, rfl, rfl⟩
end AE.Tryz
