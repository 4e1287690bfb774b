/- DragSame answers true whatever the input is, and its arguments read as they did: no condition. -/
import Derived.Test.YthajcipblfchiaaDragT
import Derived.Test.YthajcipblfchiaaDragArgs
set_option linter.unusedVariables false
set_option linter.unusedSimpArgs false
set_option linter.unusedSectionVars false
namespace Go.Proofs.Ythajcipblfchiaa.dragSame
open Go.ChangeShapes Go.WideShapes Go.ChangeAt Go.RowKit Go.Joins AE AE.Drag AE.DragIn

set_option maxRecDepth 100000

theorem walk (hw : ∀ {h : AE.H} {t0 : AE.Drag.T} {L : AE.Drag.Line} {s2 : AE.Try.Six} {m : Nat}, m ≤ h.next → L.Ok m h → s2.Ok → AW Try.prog 9 h.next h [.agg ⟨t0.cells⟩, .agg ⟨L.cells⟩, .agg ⟨s2.cells⟩] (fun v _ => v = .bool true))
    {H : Type} {enc : TypeId × Value → H} {W : World} {base : Nat} {v0 v1 v2 : Value} {d : DataW H} {p : List MemPlace} (ok0 : Value.okWide Try.prog W .any base 35 v0) (ok1 : Value.okWide Try.prog W .any base 24 v1) (ht : DataW.Trod enc Try.prog W 0 (fun _ => true) true 24 v1 d p) (ok2 : Value.okWide Try.prog W .any base 51 v2) :
    Calls Try.prog 9 #[v0, v1, v2] W fun e w' => e = .returned (.bool true) ∧ Below W.heap.size W w' := by
  obtain ⟨L, h', I', -, hb, hrel, -, -, hL, hin, hren⟩ := line_in (rel0 W) rfl ok1 ht
  obtain ⟨t0, rfl⟩ := test_in ok0
  obtain ⟨s2, rfl, hs2⟩ := six_in ok2
  have hargs : (⟨renL I' [.agg ⟨t0.cells⟩, .agg ⟨L.cells⟩, .agg ⟨s2.cells⟩]⟩ : Array Value) = #[.agg ⟨t0.cells⟩, v1, .agg ⟨s2.cells⟩] := by
    simp only [renL, hren, six_ren, test_ren]
  rw [← hargs]
  exact (hw (Nat.le_refl _) hL hs2).law hrel hb (by simp only [InL, and_true]; exact ⟨by simp [T.cells, In, InL], hin, by simp [AE.Try.Six.cells, In, InL]⟩)

theorem lifted (hw : ∀ {h : AE.H} {t0 : AE.Drag.T} {L : AE.Drag.Line} {s2 : AE.Try.Six} {m : Nat}, m ≤ h.next → L.Ok m h → s2.Ok → AW Try.prog 9 h.next h [.agg ⟨t0.cells⟩, .agg ⟨L.cells⟩, .agg ⟨s2.cells⟩] (fun v _ => v = .bool true)) (os : Os) (started : os.Started) (H : Type) (enc : TypeId × Value → H) :
    ReturnsInHanded {} Try.checked os 9 .any (Rows.dragSameSpec.pre6 enc Try.prog Try.f9 Rows.dragSameRow.domain false) (Rows.dragSameSpec.post enc Try.prog Try.f9 false true false false) := by
  refine returnsInHanded_of_change (C := Try.checked) own started (by kernel_rfl) Try.func9
    (ChangeSpec.witness6 (enc := enc) (C := Try.checked) false ⟨#[], #[.agg #[.int .i64 0, .int .i64 0, .int .i64 0, .int .i64 0, .int .i64 0, .int .i64 0, .int .i64 0, .int .i64 0, .int .i64 0, .int .i64 0, .int .i64 0, .int .i64 0, .int .i64 0, .int .i64 0, .int .i64 0, .int .i64 0], .agg #[.slice none 0 0, .slice none 0 0], .agg #[.int .u32 0, .int .u32 0, .int .u32 0, .int .u32 0, .int .u32 0, .int .u32 0]], []⟩ 8 (by kernel_rfl) (by kernel_rfl) (by kernel_rfl) (by kernel_rfl)) ?_
  intro W base args ds gs before hval0 hW hcnd _
  have hval : ∀ (j : Nat) t v, Try.f9.params[j]? = some t → args[j]? = some v → Value.okWide Try.prog W .any base t v := hval0
  have hW' := hW
  obtain ⟨p, q, hA0, hV, rfl, hfz, hnd⟩ := hW
  have hA : DataW.TrodAll enc Try.prog W 0 (fun _ => true) true Try.f9.params.toList args.toList ds p := hA0
  rw [Try.params9] at hA hval
  obtain ⟨v0, vs0, d0, ds0, p0, q0, hargs, rfl, rfl, h0, r0⟩ := trodAll_cons hA
  obtain ⟨v1, vs1, d1, ds1, p1, q1, rfl, rfl, rfl, h1, r1⟩ := trodAll_cons r0
  obtain ⟨v2, vs2, d2, ds2, p2, q2, rfl, rfl, rfl, h2, r2⟩ := trodAll_cons r1
  obtain ⟨rfl, rfl, rfl⟩ := trodAll_nil r2
  obtain rfl : args = #[v0, v1, v2] := by cases args; simp_all
  obtain ⟨rfl, rfl⟩ := trodVars_none hV
  have k0 := h0
  have k1 := h1
  have k2 := h2
  have lt0 : ∀ x ∈ p0, x.block < W.heap.size := by obtain ⟨m, hm⟩ := k0; exact DataW.trod_lt m _ _ _ hm
  have lt1 : ∀ x ∈ p1, x.block < W.heap.size := by obtain ⟨m, hm⟩ := k1; exact DataW.trod_lt m _ _ _ hm
  have lt2 : ∀ x ∈ p2, x.block < W.heap.size := by obtain ⟨m, hm⟩ := k2; exact DataW.trod_lt m _ _ _ hm
  refine (walk hw (hval 0 35 v0 rfl rfl) (hval 1 24 v1 rfl rfl) h1 (hval 2 51 v2 rfl rfl)).mono fun e W' ⟨he, bel⟩ => ?_
  subst he
  exact ⟨_, rfl, _, _, _, [], _, [], hW', trodAll_mk1 (shut_bool Try.underlying4 _), (trodAll_cons_mk (Below.trod laidOut (by kernel_rfl) (of_decide_eq_true (by kernel_rfl)) k0 bel lt0) (trodAll_cons_mk (Below.trod laidOut (by kernel_rfl) (of_decide_eq_true (by kernel_rfl)) k1 bel lt1) (trodAll_cons_mk (Below.trod laidOut (by kernel_rfl) (of_decide_eq_true (by kernel_rfl)) k2 bel lt2) trodAll_mk0))), rfl, bel.frame _, fun h => by cases h⟩

theorem over (hw : ∀ {h : AE.H} {t0 : AE.Drag.T} {L : AE.Drag.Line} {s2 : AE.Try.Six} {m : Nat}, m ≤ h.next → L.Ok m h → s2.Ok → AW Try.prog 9 h.next h [.agg ⟨t0.cells⟩, .agg ⟨L.cells⟩, .agg ⟨s2.cells⟩] (fun v _ => v = .bool true)) : Rows.dragSameRow.holds Try.pinned (OpenSpec.ofChange Rows.dragSameSpec) :=
  OpenClaim.holds_of_wide 9 Try.f9 rfl rfl rfl rfl rfl rfl rfl ⟨rfl, rfl, rfl, rfl, rfl⟩ rfl rfl rfl rfl rfl (by kernel_rfl) Try.func9 (by kernel_rfl)
    (of_decide_eq_true (by kernel_rfl)) (by unfold Func.isWrapper; rw [if_neg (of_decide_eq_false (by kernel_rfl))]; exact ⟨rfl, rfl⟩)
    (fun os started H enc _ => lifted hw os started H enc)

/-- The statement. -/
theorem proved : Rows.DragSameSaid := over fun a0 a1 a2 => AE.Try.dragSame_w a0 a1 a2
#print axioms proved
end Go.Proofs.Ythajcipblfchiaa.dragSame
