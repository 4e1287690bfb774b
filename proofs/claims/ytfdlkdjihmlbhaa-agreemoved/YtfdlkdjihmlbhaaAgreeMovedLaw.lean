/- AgreeMoved answers true whatever the input is, and its arguments read as they did: no condition. -/
import Derived.Test.YtfdlkdjihmlbhaaAgreeYmoved
import Derived.Test.YtfdlkdjihmlbhaaAgreeFit
import Derived.OpenShut
import Derived.Lib.SmallJoins
set_option linter.unusedVariables false
set_option linter.unusedSimpArgs false
set_option linter.unusedSectionVars false
namespace Go.Proofs.Ytfdlkdjihmlbhaa.agreeMoved
open Go.ChangeShapes Go.WideShapes Go.ChangeAt Go.RowKit Go.Joins AE AE.AgreeIn AE.Try

set_option maxRecDepth 100000

theorem own : ownKnob Try.prog.godebug = none := by kernel_rfl
theorem laidOut : laidOutB Try.prog = true := by kernel_rfl
theorem shapes : ShV Try.prog [(true, tableSh), (false, .int .u8), (false, .int .i32), (true, b2Sh)] [26, 5, 21, 30] := ⟨_, _, rfl, isTable, by kernel_rfl, ⟨_, _, rfl, isU8, by kernel_rfl, ⟨_, _, rfl, isI32, by kernel_rfl, ⟨_, _, rfl, isB2, by kernel_rfl, rfl⟩⟩⟩⟩
theorem whole {h : AE.H} {vs : List Value} (k : FitsV h h.next [(true, tableSh), (false, .int .u8), (false, .int .i32), (true, b2Sh)] vs) : AW Try.prog 5 h.next h vs (fun v _ => v = .bool true) := by
  obtain ⟨c0, r0, rfl, f0, k0⟩ := k
  obtain ⟨x0, rfl, p0⟩ := table_of f0
  obtain ⟨v1, r1, rfl, f1, k1⟩ := k0
  obtain ⟨x1, rfl, p1⟩ := u8_of f1
  obtain ⟨v2, r2, rfl, f2, k2⟩ := k1
  obtain ⟨x2, rfl, p2⟩ := i32_of f2
  obtain ⟨c3, r3, rfl, f3, k3⟩ := k2
  obtain ⟨x3, rfl, p3⟩ := b2_of f3
  have z : _ = [] := k3
  subst z
  exact AE.Try.moved_w (Nat.le_refl _) p0 p1 p2 p3
theorem lifted (os : Os) (started : os.Started) (H : Type) (enc : TypeId × Value → H) :
    ReturnsInHanded {} Try.checked os 5 .any (Rows.agreeMovedSpec.pre6 enc Try.prog Try.f5 Rows.agreeMovedRow.domain false) (Rows.agreeMovedSpec.post enc Try.prog Try.f5 false true false false) := by
  refine returnsInHanded_of_change (C := Try.checked) own started (by kernel_rfl) Try.func5
    (ChangeSpec.witness6 (enc := enc) (C := Try.checked) false ⟨#[], #[.agg #[.int .i64 0, .int .i64 0, .int .i64 0, .int .i64 0, .slice none 0 0], .int .u8 0, .int .i32 0, .agg #[.int .u8 0, .int .u8 0]], []⟩ 8 (by kernel_rfl) (by kernel_rfl) (by kernel_rfl) (by kernel_rfl)) ?_
  intro W base args ds gs before hval0 hW hcnd _
  have hW' := hW
  obtain ⟨p, q, hA0, hV, rfl, hfz, hnd⟩ := hW
  have hA : DataW.TrodAll enc Try.prog W 0 (fun _ => true) true Try.f5.params.toList args.toList ds p := hA0
  rw [Try.params5] at hA
  have hA1 : DataW.TrodAll enc Try.prog W 0 (fun _ => true) true [26, 5, 21, 30] args.toList ds p := hA
  have hval : ∀ (j : Nat) t v, ([26, 5, 21, 30] : List TypeId)[j]? = some t → args[j]? = some v → Value.okWide Try.prog W .any base t v := fun j t v e1 e2 => hval0 j t v (by rw [show Try.f5.params = ⟨[26, 5, 21, 30]⟩ from Try.params5]; simpa using e1) e2
  obtain ⟨rfl, rfl⟩ := trodVars_none hV
  refine (law_calls shapes hA1 hval whole).mono fun e W' ⟨he, bel⟩ => ?_
  subst he
  have hB := trodAll_below laidOut bel _ _ _ _ (by kernel_rfl) hA1
  obtain ⟨v0, vs0, d0, ds0, p0, q0, hargs, rfl, rfl, h0, r0⟩ := trodAll_cons hA1
  obtain ⟨v1, vs1, d1, ds1, p1, q1, rfl, rfl, rfl, h1, r1⟩ := trodAll_cons r0
  obtain ⟨v2, vs2, d2, ds2, p2, q2, rfl, rfl, rfl, h2, r2⟩ := trodAll_cons r1
  obtain ⟨v3, vs3, d3, ds3, p3, q3, rfl, rfl, rfl, h3, r3⟩ := trodAll_cons r2
  obtain ⟨rfl, rfl, rfl⟩ := trodAll_nil r3
  obtain rfl : args = #[v0, v1, v2, v3] := by cases args; simp_all
  exact ⟨_, rfl, _, _, _, [], _, [], hW', trodAll_mk1 (shut_bool Try.underlying4 _), hB, rfl, bel.frame _, fun h => by cases h⟩

/-- The statement. -/
theorem proved : Rows.AgreeMovedSaid :=
  OpenClaim.holds_of_wide 5 Try.f5 rfl rfl rfl rfl rfl rfl rfl ⟨rfl, rfl, rfl, rfl, rfl⟩ rfl rfl rfl rfl rfl (by kernel_rfl) Try.func5 (by kernel_rfl)
    (of_decide_eq_true (by kernel_rfl)) (by unfold Func.isWrapper; rw [if_neg (of_decide_eq_false (by kernel_rfl))]; exact ⟨rfl, rfl⟩)
    (fun os started H enc _ => lifted os started H enc)
#print axioms proved
end Go.Proofs.Ytfdlkdjihmlbhaa.agreeMoved
