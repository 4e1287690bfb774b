/- SpanTogether answers true whatever the input is, and its arguments read as they did: no condition. -/
import Derived.Test.YtkkndecbijgolaaSpanYtog
import Derived.Test.YtkkndecbijgolaaSpanFit
import Derived.OpenShut
import Derived.Lib.SmallJoins
set_option linter.unusedVariables false
set_option linter.unusedSimpArgs false
set_option linter.unusedSectionVars false
namespace Go.Proofs.Ytkkndecbijgolaa.spanTogether
open Go.ChangeShapes Go.WideShapes Go.ChangeAt Go.RowKit Go.Joins AE AE.SpanIn AE.Try

set_option maxRecDepth 100000

theorem own : ownKnob Try.prog.godebug = none := by kernel_rfl
theorem laidOut : laidOutB Try.prog = true := by kernel_rfl
theorem shapes : ShV Try.prog [(false, .slice runSh), (true, p2Sh), (true, p2Sh), (false, .int .u8)] [22, 61, 61, 5] := ⟨_, _, rfl, isRuns, by kernel_rfl, ⟨_, _, rfl, isP2, by kernel_rfl, ⟨_, _, rfl, isP2, by kernel_rfl, ⟨_, _, rfl, isU8, by kernel_rfl, rfl⟩⟩⟩⟩
theorem whole {h : AE.H} {vs : List Value} (k : FitsV h h.next [(false, .slice runSh), (true, p2Sh), (true, p2Sh), (false, .int .u8)] vs) : AW Try.prog 9 h.next h vs (fun v _ => v = .bool true) := by
  obtain ⟨v0, r0, rfl, f0, k0⟩ := k
  obtain ⟨x0, e0, p0⟩ := runsOk_of f0
  simp only [List.cons.injEq, and_true] at e0
  subst e0
  obtain ⟨c1, r1, rfl, f1, k1⟩ := k0
  obtain ⟨x1, rfl, p1, q1⟩ := p2_of f1
  obtain ⟨c2, r2, rfl, f2, k2⟩ := k1
  obtain ⟨x2, rfl, p2, q2⟩ := p2_of f2
  obtain ⟨v3, r3, rfl, f3, k3⟩ := k2
  obtain ⟨x3, rfl, p3⟩ := u8_of f3
  have z : _ = [] := k3
  subst z
  exact tog_law (Nat.le_refl _) p0 p3
theorem lifted (os : Os) (started : os.Started) (H : Type) (enc : TypeId × Value → H) :
    ReturnsInHanded {} Try.checked os 9 .any (Rows.spanTogetherSpec.pre6 enc Try.prog Try.f9 Rows.spanTogetherRow.domain false) (Rows.spanTogetherSpec.post enc Try.prog Try.f9 false true false false) := by
  refine returnsInHanded_of_change (C := Try.checked) own started (by kernel_rfl) Try.func9
    (ChangeSpec.witness6 (enc := enc) (C := Try.checked) false ⟨#[], #[.slice none 0 0, .agg #[.int .i64 0, .int .i64 0], .agg #[.int .i64 0, .int .i64 0], .int .u8 0], []⟩ 8 (by kernel_rfl) (by kernel_rfl) (by kernel_rfl) (by kernel_rfl)) ?_
  intro W base args ds gs before hval0 hW hcnd _
  have hW' := hW
  obtain ⟨p, q, hA0, hV, rfl, hfz, hnd⟩ := hW
  have hA : DataW.TrodAll enc Try.prog W 0 (fun _ => true) true Try.f9.params.toList args.toList ds p := hA0
  rw [Try.params9] at hA
  have hA1 : DataW.TrodAll enc Try.prog W 0 (fun _ => true) true [22, 61, 61, 5] args.toList ds p := hA
  have hval : ∀ (j : Nat) t v, ([22, 61, 61, 5] : List TypeId)[j]? = some t → args[j]? = some v → Value.okWide Try.prog W .any base t v := fun j t v e1 e2 => hval0 j t v (by rw [show Try.f9.params = ⟨[22, 61, 61, 5]⟩ from Try.params9]; simpa using e1) e2
  obtain ⟨rfl, rfl⟩ := trodVars_none hV
  refine (law_calls shapes hA1 hval whole).mono fun e W' ⟨he, bel⟩ => ?_
  subst he
  have hB := trodAll_below laidOut bel _ _ _ _ (by kernel_rfl) hA1
  obtain ⟨v0, vs0, d0, ds0, p0, q0, hargs, rfl, rfl, h0, r0⟩ := trodAll_cons hA1
  obtain ⟨v1, vs1, d1, ds1, p1, q1, rfl, rfl, rfl, h1, r1⟩ := trodAll_cons r0
  obtain ⟨v2, vs2, d2, ds2, p2, q2, rfl, rfl, rfl, h2, r2⟩ := trodAll_cons r1
  obtain ⟨v3, vs3, d3, ds3, p3, q3, rfl, rfl, rfl, h3, r3⟩ := trodAll_cons r2
  obtain ⟨rfl, rfl, rfl⟩ := trodAll_nil r3
  obtain rfl : args = #[v0, v1, v2, v3] := by cases args; simp_all
  exact ⟨_, rfl, _, _, _, [], _, [], hW', trodAll_mk1 (shut_bool Try.underlying4 _), hB, rfl, bel.frame _, fun h => by cases h⟩

/-- The statement. -/
theorem proved : Rows.SpanTogetherSaid :=
  OpenClaim.holds_of_wide 9 Try.f9 rfl rfl rfl rfl rfl rfl rfl ⟨rfl, rfl, rfl, rfl, rfl⟩ rfl rfl rfl rfl rfl (by kernel_rfl) Try.func9 (by kernel_rfl)
    (of_decide_eq_true (by kernel_rfl)) (by unfold Func.isWrapper; rw [if_neg (of_decide_eq_false (by kernel_rfl))]; exact ⟨rfl, rfl⟩)
    (fun os started H enc _ => lifted os started H enc)
#print axioms proved
end Go.Proofs.Ytkkndecbijgolaa.spanTogether
