/- Works of a layer, by evaluation, with calls that are kept. -/
import Derived.Test.YtneenfjffejnoaaGreatJoin1
import Derived.Test.YtneenfjffejnoaaGreatT9M34e19_0
import Derived.Test.YtneenfjffejnoaaGreatT9M34e91_0
set_option linter.unusedVariables false
set_option linter.unusedSimpArgs false
set_option linter.unusedSectionVars false
namespace AE.Tryz
open Go AE Go.Proofs
set_option maxRecDepth 1000000
noncomputable def T9M34x : AE.KerP.Hooks := fun g => bif Nat.beq g 91 then some (AE.Memo.hook T9M34k91) else bif Nat.beq g 19 then some (AE.Memo.hook T9M34k19) else bif Nat.beq g 106 then some AE.Memo.cloneHook else none
theorem T9M34o19 : ∀ m ∈ T9M34k19, m.run Tryz.prog kt kt2 nds mgs 1000000 1000000 19 = true := fun m hm => by
 have h : T9M34k19 = (T9M34k19.drop 0).take 2 := rfl
 rw [h] at hm
 exact List.all_eq_true.1 T9M34e19_0 m hm
theorem T9M34o91 : ∀ m ∈ T9M34k91, m.run Tryz.prog kt kt2 nds mgs 1000000 1000000 91 = true := fun m hm => by
 have h : T9M34k91 = (T9M34k91.drop 0).take 1 := rfl
 rw [h] at hm
 exact List.all_eq_true.1 T9M34e91_0 m hm
theorem T9M34ok : AE.KerP.HooksOk Tryz.prog T9M34x := fun g F h => by
 unfold T9M34x at h
 cases hg : Nat.beq g 91 <;> simp only [hg, cond_true, cond_false] at h
 rotate_left
 ·obtain rfl := Nat.eq_of_beq_eq_true hg
  cases h
  exact AE.Memo.hook_ok rfl (AE.KerP.tab_ok rfl nds AE.KerP.noHooks_ok) (AE.KerP.tabD_ok rfl nds) T9M34o91
 cases hg : Nat.beq g 19 <;> simp only [hg, cond_true, cond_false] at h
 rotate_left
 ·obtain rfl := Nat.eq_of_beq_eq_true hg
  cases h
  exact AE.Memo.hook_ok rfl (AE.KerP.tab_ok rfl nds AE.KerP.noHooks_ok) (AE.KerP.tabD_ok rfl nds) T9M34o19
 cases hg : Nat.beq g 106 <;> simp only [hg, cond_true, cond_false] at h
 rotate_left
 ·obtain rfl := Nat.eq_of_beq_eq_true hg
  cases h
  exact clone_ok
 cases h
theorem kw34 : AE.KerD.kclosed Tryz.prog (AE.KerP.tab Tryz.prog nds8 T9M34x) (AE.KerP.tabD Tryz.prog nds8) nds8 mgs 1000000 1000000 34 = true := by kernel_rfl
theorem w34 {h : H} : AW Tryz.prog 34 h.next h [] (fun v h' => v = .bool true ∧ h' = h) := AE.KerP.closed_w rfl T9M34ok kw34
end AE.Tryz
