/- Works of a layer, by evaluation, with calls that are kept. -/
import Derived.Test.YtbgiemgoafjohaaGreatDoorT12M33e337_0
import Derived.Test.YtbgiemgoafjohaaGreatDoorT12M33e337_1
set_option linter.unusedVariables false
set_option linter.unusedSimpArgs false
set_option linter.unusedSectionVars false
namespace AE.Tryz
open Go AE Go.Proofs
set_option maxRecDepth 1000000
noncomputable def Rf:AE.KerP.Hr:=fun g=>bif Nat.beq g 337 then some (AE.Memo.hook EB)else none
theorem UX:∀m∈EB,m.run Tryz.prog kt Ow Jk L9 1000000 1000000 337=true:=fun m hm=>by
 have h:EB=(EB.drop 0).take 7++(EB.drop 7).take 7:=rfl
 rw[h]at hm
 simp only[List.mem_append]at hm
 rcases hm with hm|hm
 ·exact List.all_eq_true.1 Ri m hm
 ·exact List.all_eq_true.1 Rh m hm
theorem aK:AE.KerP.Fl Tryz.prog Rf:=fun g F h=>by
 unfold Rf at h
 cases hg:Nat.beq g 337<;>simp only[hg,cond_true,cond_false]at h
 rotate_left
 ·obtain rfl:=Nat.eq_of_beq_eq_true hg
  cases h
  exact AE.Memo.KI rfl (AE.KerP.Lh rfl Jk AE.KerP.E9) (AE.KerP.Jd rfl Jk) UX
 cases h
theorem kM:AE.KerD.CG Tryz.prog (AE.KerP.tab Tryz.prog Ms Rf) (AE.KerP.Ry Tryz.prog Ms) Ms L9 1000000 1000000 148=true:=by kernel_rfl
theorem oC {h:H}:AW Tryz.prog 148 h.next h [] (fun v h'=>v= .bool true/\h'=h):=AE.KerP.El rfl aK kM
end AE.Tryz
