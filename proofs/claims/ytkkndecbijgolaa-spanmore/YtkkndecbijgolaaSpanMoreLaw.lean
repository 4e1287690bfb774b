/- SpanMore answers true whatever the input is, and its arguments read as they did: no condition. -/
import Derived.Test.YtkkndecbijgolaaSpanYmore
import Derived.Test.YtkkndecbijgolaaSpanFit
import Derived.OpenShut
import Derived.Lib.SmallJoins
set_option linter.unusedVariables false
set_option linter.unusedSimpArgs false
set_option linter.unusedSectionVars false
namespace Go.Proofs.Ytkkndecbijgolaa.spanMore
open Go.ChangeShapes Go.WideShapes Go.ChangeAt Go.RowKit Go.Joins AE AE.SpanIn AE.Try

set_option maxRecDepth 100000

theorem own : ownKnob Try.prog.godebug = none := by kernel_rfl
theorem laidOut : laidOutB Try.prog = true := by kernel_rfl
theorem shapes : ShV Try.prog [(false, .slice runSh), (false, .int .i64), (false, .int .i64), (true, runSh), (false, .int .u8), (true, w2Sh)] [22, 2, 2, 56, 5, 58] := ⟨_, _, rfl, isRuns, by kernel_rfl, ⟨_, _, rfl, is64, by kernel_rfl, ⟨_, _, rfl, is64, by kernel_rfl, ⟨_, _, rfl, isRun, by kernel_rfl, ⟨_, _, rfl, isU8, by kernel_rfl, ⟨_, _, rfl, isW2, by kernel_rfl, rfl⟩⟩⟩⟩⟩⟩
theorem whole {h : AE.H} {vs : List Value} (k : FitsV h h.next [(false, .slice runSh), (false, .int .i64), (false, .int .i64), (true, runSh), (false, .int .u8), (true, w2Sh)] vs) : AW Try.prog 8 h.next h vs (fun v _ => v = .bool true) := by
  obtain ⟨v0, r0, rfl, f0, k0⟩ := k
  obtain ⟨x0, e0, p0⟩ := runs_of f0
  simp only [List.cons.injEq, and_true] at e0
  subst e0
  obtain ⟨v1, r1, rfl, f1, k1⟩ := k0
  obtain ⟨x1, rfl, p1⟩ := i64_of f1
  obtain ⟨v2, r2, rfl, f2, k2⟩ := k1
  obtain ⟨x2, rfl, p2⟩ := i64_of f2
  obtain ⟨c3, r3, rfl, f3, k3⟩ := k2
  obtain ⟨x3, rfl, p3, q3⟩ := run_of f3
  obtain ⟨v4, r4, rfl, f4, k4⟩ := k3
  obtain ⟨x4, rfl, p4⟩ := u8_of f4
  obtain ⟨c5, r5, rfl, f5, k5⟩ := k4
  obtain ⟨x5, rfl, p5, q5⟩ := w2_of f5
  have z : _ = [] := k5
  subst z
  exact more_law (Nat.le_refl _) p0 p4 p5 q5
theorem lifted (os : Os) (started : os.Started) (H : Type) (enc : TypeId × Value → H) :
    ReturnsInHanded {} Try.checked os 8 .any (Rows.spanMoreSpec.pre6 enc Try.prog Try.f8 Rows.spanMoreRow.domain false) (Rows.spanMoreSpec.post enc Try.prog Try.f8 false true false false) := by
  refine returnsInHanded_of_change (C := Try.checked) own started (by kernel_rfl) Try.func8
    (ChangeSpec.witness6 (enc := enc) (C := Try.checked) false ⟨#[], #[.slice none 0 0, .int .i64 0, .int .i64 0, .agg #[.int .i64 0, .int .i64 0, .int .i64 0, .int .i64 0], .int .u8 0, .agg #[.int .u16 0, .int .u16 0]], []⟩ 8 (by kernel_rfl) (by kernel_rfl) (by kernel_rfl) (by kernel_rfl)) ?_
  intro W base args ds gs before hval0 hW hcnd _
  have hW' := hW
  obtain ⟨p, q, hA0, hV, rfl, hfz, hnd⟩ := hW
  have hA : DataW.TrodAll enc Try.prog W 0 (fun _ => true) true Try.f8.params.toList args.toList ds p := hA0
  rw [Try.params8] at hA
  have hA1 : DataW.TrodAll enc Try.prog W 0 (fun _ => true) true [22, 2, 2, 56, 5, 58] args.toList ds p := hA
  have hval : ∀ (j : Nat) t v, ([22, 2, 2, 56, 5, 58] : List TypeId)[j]? = some t → args[j]? = some v → Value.okWide Try.prog W .any base t v := fun j t v e1 e2 => hval0 j t v (by rw [show Try.f8.params = ⟨[22, 2, 2, 56, 5, 58]⟩ from Try.params8]; simpa using e1) e2
  obtain ⟨rfl, rfl⟩ := trodVars_none hV
  refine (law_calls shapes hA1 hval whole).mono fun e W' ⟨he, bel⟩ => ?_
  subst he
  have hB := trodAll_below laidOut bel _ _ _ _ (by kernel_rfl) hA1
  obtain ⟨v0, vs0, d0, ds0, p0, q0, hargs, rfl, rfl, h0, r0⟩ := trodAll_cons hA1
  obtain ⟨v1, vs1, d1, ds1, p1, q1, rfl, rfl, rfl, h1, r1⟩ := trodAll_cons r0
  obtain ⟨v2, vs2, d2, ds2, p2, q2, rfl, rfl, rfl, h2, r2⟩ := trodAll_cons r1
  obtain ⟨v3, vs3, d3, ds3, p3, q3, rfl, rfl, rfl, h3, r3⟩ := trodAll_cons r2
  obtain ⟨v4, vs4, d4, ds4, p4, q4, rfl, rfl, rfl, h4, r4⟩ := trodAll_cons r3
  obtain ⟨v5, vs5, d5, ds5, p5, q5, rfl, rfl, rfl, h5, r5⟩ := trodAll_cons r4
  obtain ⟨rfl, rfl, rfl⟩ := trodAll_nil r5
  obtain rfl : args = #[v0, v1, v2, v3, v4, v5] := by cases args; simp_all
  exact ⟨_, rfl, _, _, _, [], _, [], hW', trodAll_mk1 (shut_bool Try.underlying4 _), hB, rfl, bel.frame _, fun h => by cases h⟩

/-- The statement. -/
theorem proved : Rows.SpanMoreSaid :=
  OpenClaim.holds_of_wide 8 Try.f8 rfl rfl rfl rfl rfl rfl rfl ⟨rfl, rfl, rfl, rfl, rfl⟩ rfl rfl rfl rfl rfl (by kernel_rfl) Try.func8 (by kernel_rfl)
    (of_decide_eq_true (by kernel_rfl)) (by unfold Func.isWrapper; rw [if_neg (of_decide_eq_false (by kernel_rfl))]; exact ⟨rfl, rfl⟩)
    (fun os started H enc _ => lifted os started H enc)
#print axioms proved
end Go.Proofs.Ytkkndecbijgolaa.spanMore
