/- Works of a layer, by evaluation, with calls that are kept. -/
import Derived.Test.YtneenfjffejnoaaGreatT9M33e172_0
import Derived.Test.YtneenfjffejnoaaGreatT9M33e172_1
set_option linter.unusedVariables false
set_option linter.unusedSimpArgs false
set_option linter.unusedSectionVars false
namespace AE.Tryz
open Go AE Go.Proofs
set_option maxRecDepth 1000000
noncomputable def T9M33x : AE.KerP.Hooks := fun g => bif Nat.beq g 172 then some (AE.Memo.hook T9M33k172) else none
theorem T9M33o172 : ∀ m ∈ T9M33k172, m.run Tryz.prog kt kt2 nds mgs 1000000 1000000 172 = true := fun m hm => by
 have h : T9M33k172 = (T9M33k172.drop 0).take 7 ++ (T9M33k172.drop 7).take 7 := rfl
 rw [h] at hm
 simp only [List.mem_append] at hm
 rcases hm with hm | hm
 ·exact List.all_eq_true.1 T9M33e172_0 m hm
 ·exact List.all_eq_true.1 T9M33e172_1 m hm
theorem T9M33ok : AE.KerP.HooksOk Tryz.prog T9M33x := fun g F h => by
 unfold T9M33x at h
 cases hg : Nat.beq g 172 <;> simp only [hg, cond_true, cond_false] at h
 rotate_left
 ·obtain rfl := Nat.eq_of_beq_eq_true hg
  cases h
  exact AE.Memo.hook_ok rfl (AE.KerP.tab_ok rfl nds AE.KerP.noHooks_ok) (AE.KerP.tabD_ok rfl nds) T9M33o172
 cases h
theorem kw33 : AE.KerD.kclosed Tryz.prog (AE.KerP.tab Tryz.prog nds8 T9M33x) (AE.KerP.tabD Tryz.prog nds8) nds8 mgs 1000000 1000000 33 = true := by kernel_rfl
theorem w33 {h : H} : AW Tryz.prog 33 h.next h [] (fun v h' => v = .bool true ∧ h' = h) := AE.KerP.closed_w rfl T9M33ok kw33
end AE.Tryz
