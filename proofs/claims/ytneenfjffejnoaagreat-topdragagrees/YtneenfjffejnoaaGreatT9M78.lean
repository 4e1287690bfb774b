/- Works of a layer, by evaluation, with calls that are kept. -/
import Derived.Test.YtneenfjffejnoaaGreatT9M78e266_0
import Derived.Test.YtneenfjffejnoaaGreatT9M78e266_1
set_option linter.unusedVariables false
set_option linter.unusedSimpArgs false
set_option linter.unusedSectionVars false
namespace AE.Tryz
open Go AE Go.Proofs
set_option maxRecDepth 1000000
noncomputable def T9M78x : AE.KerP.Hooks := fun g => bif Nat.beq g 266 then some (AE.Memo.hook T9M78k266) else none
theorem T9M78o266 : ∀ m ∈ T9M78k266, m.run Tryz.prog kt kt2 nds mgs 1000000 1000000 266 = true := fun m hm => by
 have h : T9M78k266 = (T9M78k266.drop 0).take 2 ++ (T9M78k266.drop 2).take 2 := rfl
 rw [h] at hm
 simp only [List.mem_append] at hm
 rcases hm with hm | hm
 ·exact List.all_eq_true.1 T9M78e266_0 m hm
 ·exact List.all_eq_true.1 T9M78e266_1 m hm
theorem T9M78ok : AE.KerP.HooksOk Tryz.prog T9M78x := fun g F h => by
 unfold T9M78x at h
 cases hg : Nat.beq g 266 <;> simp only [hg, cond_true, cond_false] at h
 rotate_left
 ·obtain rfl := Nat.eq_of_beq_eq_true hg
  cases h
  exact AE.Memo.hook_ok rfl (AE.KerP.tab_ok rfl nds AE.KerP.noHooks_ok) (AE.KerP.tabD_ok rfl nds) T9M78o266
 cases h
theorem kw78 : AE.KerD.kclosed Tryz.prog (AE.KerP.tab Tryz.prog nds8 T9M78x) (AE.KerP.tabD Tryz.prog nds8) nds8 mgs 1000000 1000000 78 = true := by kernel_rfl
theorem w78 {h : H} : AW Tryz.prog 78 h.next h [] (fun v h' => v = .bool true ∧ h' = h) := AE.KerP.closed_w rfl T9M78ok kw78
end AE.Tryz
