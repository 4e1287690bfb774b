/- DragKnown answers true whatever the input is, and its arguments read as they did: no condition. -/
import Derived.Test.YthajcipblfchiaaDragU
import Derived.Test.YthajcipblfchiaaDragArgs
set_option linter.unusedVariables false
set_option linter.unusedSimpArgs false
set_option linter.unusedSectionVars false
namespace Go.Proofs.Ythajcipblfchiaa.dragKnown
open Go.ChangeShapes Go.WideShapes Go.ChangeAt Go.RowKit Go.Joins AE AE.Drag AE.DragIn

set_option maxRecDepth 100000

theorem walk (hw : ∀ {h : AE.H}, AW Try.prog 12 h.next h [] (fun v _ => v = .bool true))
    {W : World} :
    Calls Try.prog 12 #[] W fun e w' => e = .returned (.bool true) ∧ Below W.heap.size W w' := by
  have hargs : (⟨renL (inj0 W) []⟩ : Array Value) = #[] := by
    simp only [renL]
  rw [← hargs]
  exact (hw (h := AE.H.empty) ).law (rel0 W) rfl trivial

theorem lifted (hw : ∀ {h : AE.H}, AW Try.prog 12 h.next h [] (fun v _ => v = .bool true)) (os : Os) (started : os.Started) (H : Type) (enc : TypeId × Value → H) :
    ReturnsInHanded {} Try.checked os 12 .any (Rows.dragKnownSpec.pre6 enc Try.prog Try.f12 Rows.dragKnownRow.domain false) (Rows.dragKnownSpec.post enc Try.prog Try.f12 false true false false) := by
  refine returnsInHanded_of_change (C := Try.checked) own started (by kernel_rfl) Try.func12
    (ChangeSpec.witness6 (enc := enc) (C := Try.checked) false ⟨#[], #[], []⟩ 8 (by kernel_rfl) (by kernel_rfl) (by kernel_rfl) (by kernel_rfl)) ?_
  intro W base args ds gs before hval0 hW hcnd _
  have hW' := hW
  obtain ⟨p, q, hA0, hV, rfl, hfz, hnd⟩ := hW
  have hA : DataW.TrodAll enc Try.prog W 0 (fun _ => true) true Try.f12.params.toList args.toList ds p := hA0
  rw [Try.params12] at hA
  obtain ⟨hargs, rfl, rfl⟩ := trodAll_nil hA
  obtain rfl : args = #[] := by cases args; simp_all
  obtain ⟨rfl, rfl⟩ := trodVars_none hV
  refine (walk hw).mono fun e W' ⟨he, bel⟩ => ?_
  subst he
  exact ⟨_, rfl, _, _, _, [], _, [], hW', trodAll_mk1 (shut_bool Try.underlying4 _), trodAll_mk0, rfl, bel.frame _, fun h => by cases h⟩

theorem over (hw : ∀ {h : AE.H}, AW Try.prog 12 h.next h [] (fun v _ => v = .bool true)) : Rows.dragKnownRow.holds Try.pinned (OpenSpec.ofChange Rows.dragKnownSpec) :=
  OpenClaim.holds_of_wide 12 Try.f12 rfl rfl rfl rfl rfl rfl rfl ⟨rfl, rfl, rfl, rfl, rfl⟩ rfl rfl rfl rfl rfl (by kernel_rfl) Try.func12 (by kernel_rfl)
    (of_decide_eq_true (by kernel_rfl)) (by unfold Func.isWrapper; rw [if_neg (of_decide_eq_false (by kernel_rfl))]; exact ⟨rfl, rfl⟩)
    (fun os started H enc _ => lifted hw os started H enc)

/-- The statement. -/
theorem proved : Rows.DragKnownSaid := over AE.Try.dragKnown_w
#print axioms proved
end Go.Proofs.Ythajcipblfchiaa.dragKnown
