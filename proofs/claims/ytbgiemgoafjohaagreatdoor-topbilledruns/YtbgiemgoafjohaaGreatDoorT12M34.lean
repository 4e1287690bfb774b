/- Works of a layer, by evaluation, with calls that are kept. -/
import Derived.Test.YtbgiemgoafjohaaGreatDoorJoin6
import Derived.Test.YtbgiemgoafjohaaGreatDoorT12M34e152_0
import Derived.Test.YtbgiemgoafjohaaGreatDoorT12M34e26_0
set_option linter.unusedVariables false
set_option linter.unusedSimpArgs false
set_option linter.unusedSectionVars false
namespace AE.Tryz
open Go AE Go.Proofs
set_option maxRecDepth 1000000
noncomputable def Rc:AE.KerP.Hr:=fun g=>bif Nat.beq g 26 then some (AE.Memo.hook Hq)else bif Nat.beq g 152 then some (AE.Memo.hook Gi)else bif Nat.beq g 349 then some AE.Memo.LK else none
theorem UW:∀m∈Gi,m.run Tryz.prog kt Ow Jk L9 1000000 1000000 152=true:=fun m hm=>by
 have h:Gi=(Gi.drop 0).take 2:=rfl
 rw[h]at hm
 exact List.all_eq_true.1 Re m hm
theorem XO:∀m∈Hq,m.run Tryz.prog kt Ow Jk L9 1000000 1000000 26=true:=fun m hm=>by
 have h:Hq=(Hq.drop 0).take 1:=rfl
 rw[h]at hm
 exact List.all_eq_true.1 Ti m hm
theorem aJ:AE.KerP.Fl Tryz.prog Rc:=fun g F h=>by
 unfold Rc at h
 cases hg:Nat.beq g 26<;>simp only[hg,cond_true,cond_false]at h
 rotate_left
 ·obtain rfl:=Nat.eq_of_beq_eq_true hg
  cases h
  exact AE.Memo.KI rfl (AE.KerP.Lh rfl Jk AE.KerP.E9) (AE.KerP.Jd rfl Jk) XO
 cases hg:Nat.beq g 152<;>simp only[hg,cond_true,cond_false]at h
 rotate_left
 ·obtain rfl:=Nat.eq_of_beq_eq_true hg
  cases h
  exact AE.Memo.KI rfl (AE.KerP.Lh rfl Jk AE.KerP.E9) (AE.KerP.Jd rfl Jk) UW
 cases hg:Nat.beq g 349<;>simp only[hg,cond_true,cond_false]at h
 rotate_left
 ·obtain rfl:=Nat.eq_of_beq_eq_true hg
  cases h
  exact ZU
 cases h
theorem qb:AE.KerD.CG Tryz.prog (AE.KerP.tab Tryz.prog Ms Rc) (AE.KerP.Ry Tryz.prog Ms) Ms L9 1000000 1000000 83=true:=by kernel_rfl
theorem sQ {h:H}:AW Tryz.prog 83 h.next h [] (fun v h'=>v= .bool true/\h'=h):=AE.KerP.El rfl aJ qb
end AE.Tryz
