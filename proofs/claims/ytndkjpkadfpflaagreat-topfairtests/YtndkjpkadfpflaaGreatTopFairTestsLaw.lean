/- TopFairTests answers true whatever the input is, and its arguments read as they did: no condition. -/
import Derived.Test.YtndkjpkadfpflaaGreatTopG2
import Derived.Test.YtndkjpkadfpflaaGreatTopFit2
import Derived.OpenShut
import Derived.Lib.SmallJoins
set_option linter.unusedVariables false
set_option linter.unusedSimpArgs false
set_option linter.unusedSectionVars false
namespace Go.Proofs.YtndkjpkadfpflaaGreat.topFairTests
open Go.ChangeShapes Go.WideShapes Go.ChangeAt Go.RowKit Go.Joins AE AE.Drag AE.TopIn2 AE.Tryz

set_option maxRecDepth 100000

theorem own : ownKnob Tryz.prog.godebug = none := by kernel_rfl
theorem laidOut : laidOutB Tryz.prog = true := by kernel_rfl
theorem shapes : ShV Tryz.prog [(false, .slice testSh), (false, .slice lineSh), (false, .int .u32), (false, .int .u8), (true, sixSh)] [65, 66, 25, 5, 67] := ⟨_, _, rfl, isTests, by kernel_rfl, ⟨_, _, rfl, isLines, by kernel_rfl, ⟨_, _, rfl, isU32, by kernel_rfl, ⟨_, _, rfl, isU8, by kernel_rfl, ⟨_, _, rfl, isSix, by kernel_rfl, rfl⟩⟩⟩⟩⟩
theorem whole {h : AE.H} {vs : List Value} (k : FitsV h h.next [(false, .slice testSh), (false, .slice lineSh), (false, .int .u32), (false, .int .u8), (true, sixSh)] vs) : AW Tryz.prog 5 h.next h vs (fun v _ => v = .bool true) := by
  obtain ⟨v0, r0, rfl, f0, k0⟩ := k
  obtain ⟨x0, e0, p0⟩ := tests_of f0
  simp only [List.cons.injEq, and_true] at e0
  subst e0
  obtain ⟨v1, r1, rfl, f1, k1⟩ := k0
  obtain ⟨x1, e1, p1⟩ := lines_of f1
  simp only [List.cons.injEq, and_true] at e1
  subst e1
  obtain ⟨v2, r2, rfl, f2, k2⟩ := k1
  obtain ⟨x2, rfl, p2⟩ := u32_of f2
  obtain ⟨v3, r3, rfl, f3, k3⟩ := k2
  obtain ⟨x3, rfl, p3⟩ := u8_of f3
  obtain ⟨c4, r4, rfl, f4, k4⟩ := k3
  obtain ⟨x4, rfl, p4⟩ := six_of f4
  have z : _ = [] := k4
  subst z
  exact fairTests_w (Nat.le_refl _) p0 p1 p2 p3 p4
theorem lifted (os : Os) (started : os.Started) (H : Type) (enc : TypeId × Value → H) :
    ReturnsInHanded {} Tryz.checked os 5 .any (Rows.topFairTestsSpec.pre6 enc Tryz.prog Tryz.f5 Rows.topFairTestsRow.domain false) (Rows.topFairTestsSpec.post enc Tryz.prog Tryz.f5 false true false false) := by
  refine returnsInHanded_of_change (C := Tryz.checked) own started (by kernel_rfl) Tryz.func5
    (ChangeSpec.witness6 (enc := enc) (C := Tryz.checked) false ⟨#[], #[.slice none 0 0, .slice none 0 0, .int .u32 0, .int .u8 0, .agg #[.int .u32 0, .int .u32 0, .int .u32 0, .int .u32 0, .int .u32 0, .int .u32 0]], []⟩ 8 (by kernel_rfl) (by kernel_rfl) (by kernel_rfl) (by kernel_rfl)) ?_
  intro W base args ds gs before hval0 hW hcnd _
  have hW' := hW
  obtain ⟨p, q, hA0, hV, rfl, hfz, hnd⟩ := hW
  have hA : DataW.TrodAll enc Tryz.prog W 0 (fun _ => true) true Tryz.f5.params.toList args.toList ds p := hA0
  rw [Tryz.params5] at hA
  have hA1 : DataW.TrodAll enc Tryz.prog W 0 (fun _ => true) true [65, 66, 25, 5, 67] args.toList ds p := hA
  have hval : ∀ (j : Nat) t v, ([65, 66, 25, 5, 67] : List TypeId)[j]? = some t → args[j]? = some v → Value.okWide Tryz.prog W .any base t v := fun j t v e1 e2 => hval0 j t v (by rw [show Tryz.f5.params = ⟨[65, 66, 25, 5, 67]⟩ from Tryz.params5]; simpa using e1) e2
  obtain ⟨rfl, rfl⟩ := trodVars_none hV
  refine (law_calls shapes hA1 hval whole).mono fun e W' ⟨he, bel⟩ => ?_
  subst he
  have hB := trodAll_below laidOut bel _ _ _ _ (by kernel_rfl) hA1
  obtain ⟨v0, vs0, d0, ds0, p0, q0, hargs, rfl, rfl, h0, r0⟩ := trodAll_cons hA1
  obtain ⟨v1, vs1, d1, ds1, p1, q1, rfl, rfl, rfl, h1, r1⟩ := trodAll_cons r0
  obtain ⟨v2, vs2, d2, ds2, p2, q2, rfl, rfl, rfl, h2, r2⟩ := trodAll_cons r1
  obtain ⟨v3, vs3, d3, ds3, p3, q3, rfl, rfl, rfl, h3, r3⟩ := trodAll_cons r2
  obtain ⟨v4, vs4, d4, ds4, p4, q4, rfl, rfl, rfl, h4, r4⟩ := trodAll_cons r3
  obtain ⟨rfl, rfl, rfl⟩ := trodAll_nil r4
  obtain rfl : args = #[v0, v1, v2, v3, v4] := by cases args; simp_all
  exact ⟨_, rfl, _, _, _, [], _, [], hW', trodAll_mk1 (shut_bool Tryz.underlying4 _), hB, rfl, bel.frame _, fun h => by cases h⟩

/-- The statement. -/
theorem proved : Rows.TopFairTestsSaid :=
  OpenClaim.holds_of_wide 5 Tryz.f5 rfl rfl rfl rfl rfl rfl rfl ⟨rfl, rfl, rfl, rfl, rfl⟩ rfl rfl rfl rfl rfl (by kernel_rfl) Tryz.func5 (by kernel_rfl)
    (of_decide_eq_true (by kernel_rfl)) (by unfold Func.isWrapper; rw [if_neg (of_decide_eq_false (by kernel_rfl))]; exact ⟨rfl, rfl⟩)
    (fun os started H enc _ => lifted os started H enc)
#print axioms proved
end Go.Proofs.YtndkjpkadfpflaaGreat.topFairTests
