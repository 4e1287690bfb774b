/- Works of a layer, by evaluation, with calls that are kept. -/
import Derived.Test.YtneenfjffejnoaaGreatT9M33e172_0
import Derived.Test.YtneenfjffejnoaaGreatT9M33e172_1
set_option linter.unusedVariables false
set_option linter.unusedSimpArgs false
set_option linter.unusedSectionVars false
namespace AE.Tryz
open Go AE Go.Proofs
set_option maxRecDepth 1000000
noncomputable def de:AE.KerP.Ml:=fun g=>bif Nat.beq g 172 then some (AE.Memo.hook HF)else none
theorem kI:∀m∈HF,m.run Tryz.prog kt UY M9 SC 1000000 1000000 172=true:=fun m hm=>by
 have h:HF=(HF.drop 0).take 7++(HF.drop 7).take 7:=rfl
 rw[h]at hm
 simp only[List.mem_append]at hm
 rcases hm with hm|hm
 ·exact List.all_eq_true.1 ZB m hm
 ·exact List.all_eq_true.1 ZA m hm
theorem vg:AE.KerP.JO Tryz.prog de:=fun g F h=>by
 unfold de at h
 cases hg:Nat.beq g 172<;>simp only[hg,cond_true,cond_false]at h
 rotate_left
 ·obtain rfl:=Nat.eq_of_beq_eq_true hg
  cases h
  exact AE.Memo.OP rfl (AE.KerP.Ps rfl M9 AE.KerP.Ht) (AE.KerP.Mq rfl M9) kI
 cases h
theorem Amw:AE.KerD.ER Tryz.prog (AE.KerP.tab Tryz.prog QS de) (AE.KerP.Z6 Tryz.prog QS) QS SC 1000000 1000000 33=true:=by kernel_rfl
theorem w33 {h:H}:AW Tryz.prog 33 h.next h [] (fun v h'=>v= .bool true/\h'=h):=AE.KerP.GY rfl vg Amw
end AE.Tryz
