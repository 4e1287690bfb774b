/- Works of a layer, by evaluation, with calls that are kept. -/
import Derived.Test.YtneenfjffejnoaaGreatJoin1
import Derived.Test.YtneenfjffejnoaaGreatT9M34e19_0
import Derived.Test.YtneenfjffejnoaaGreatT9M34e91_0
set_option linter.unusedVariables false
set_option linter.unusedSimpArgs false
set_option linter.unusedSectionVars false
namespace AE.Tryz
open Go AE Go.Proofs
set_option maxRecDepth 1000000
noncomputable def c9:AE.KerP.Ml:=fun g=>bif Nat.beq g 91 then some (AE.Memo.hook Mg)else bif Nat.beq g 19 then some (AE.Memo.hook Mh)else bif Nat.beq g 106 then some AE.Memo.P5 else none
theorem qG:∀m∈Mh,m.run Tryz.prog kt UY M9 SC 1000000 1000000 19=true:=fun m hm=>by
 have h:Mh=(Mh.drop 0).take 2:=rfl
 rw[h]at hm
 exact List.all_eq_true.1 dc m hm
theorem qF:∀m∈Mg,m.run Tryz.prog kt UY M9 SC 1000000 1000000 91=true:=fun m hm=>by
 have h:Mg=(Mg.drop 0).take 1:=rfl
 rw[h]at hm
 exact List.all_eq_true.1 da m hm
theorem vf:AE.KerP.JO Tryz.prog c9:=fun g F h=>by
 unfold c9 at h
 cases hg:Nat.beq g 91<;>simp only[hg,cond_true,cond_false]at h
 rotate_left
 ·obtain rfl:=Nat.eq_of_beq_eq_true hg
  cases h
  exact AE.Memo.OP rfl (AE.KerP.Ps rfl M9 AE.KerP.Ht) (AE.KerP.Mq rfl M9) qF
 cases hg:Nat.beq g 19<;>simp only[hg,cond_true,cond_false]at h
 rotate_left
 ·obtain rfl:=Nat.eq_of_beq_eq_true hg
  cases h
  exact AE.Memo.OP rfl (AE.KerP.Ps rfl M9 AE.KerP.Ht) (AE.KerP.Mq rfl M9) qG
 cases hg:Nat.beq g 106<;>simp only[hg,cond_true,cond_false]at h
 rotate_left
 ·obtain rfl:=Nat.eq_of_beq_eq_true hg
  cases h
  exact pH
 cases h
theorem Amv:AE.KerD.ER Tryz.prog (AE.KerP.tab Tryz.prog QS c9) (AE.KerP.Z6 Tryz.prog QS) QS SC 1000000 1000000 34=true:=by kernel_rfl
theorem w34 {h:H}:AW Tryz.prog 34 h.next h [] (fun v h'=>v= .bool true/\h'=h):=AE.KerP.GY rfl vf Amv
end AE.Tryz
