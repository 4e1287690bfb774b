/- Works of a layer, by evaluation, with calls that are kept. -/
import Derived.Test.YtneenfjffejnoaaGreatT9M78e266_0
import Derived.Test.YtneenfjffejnoaaGreatT9M78e266_1
set_option linter.unusedVariables false
set_option linter.unusedSimpArgs false
set_option linter.unusedSectionVars false
namespace AE.Tryz
open Go AE Go.Proofs
set_option maxRecDepth 1000000
noncomputable def cZ:AE.KerP.Ml:=fun g=>bif Nat.beq g 266 then some (AE.Memo.hook HE)else none
theorem kH:∀m∈HE,m.run Tryz.prog kt UY M9 SC 1000000 1000000 266=true:=fun m hm=>by
 have h:HE=(HE.drop 0).take 2++(HE.drop 2).take 2:=rfl
 rw[h]at hm
 simp only[List.mem_append]at hm
 rcases hm with hm|hm
 ·exact List.all_eq_true.1 Zz m hm
 ·exact List.all_eq_true.1 Zy m hm
theorem ve:AE.KerP.JO Tryz.prog cZ:=fun g F h=>by
 unfold cZ at h
 cases hg:Nat.beq g 266<;>simp only[hg,cond_true,cond_false]at h
 rotate_left
 ·obtain rfl:=Nat.eq_of_beq_eq_true hg
  cases h
  exact AE.Memo.OP rfl (AE.KerP.Ps rfl M9 AE.KerP.Ht) (AE.KerP.Mq rfl M9) kH
 cases h
theorem Amt:AE.KerD.ER Tryz.prog (AE.KerP.tab Tryz.prog QS cZ) (AE.KerP.Z6 Tryz.prog QS) QS SC 1000000 1000000 78=true:=by kernel_rfl
theorem w78 {h:H}:AW Tryz.prog 78 h.next h [] (fun v h'=>v= .bool true/\h'=h):=AE.KerP.GY rfl ve Amt
end AE.Tryz
