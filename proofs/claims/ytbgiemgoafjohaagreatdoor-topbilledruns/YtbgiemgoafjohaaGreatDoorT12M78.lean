/- Works of a layer, by evaluation, with calls that are kept. -/
import Derived.Test.YtbgiemgoafjohaaGreatDoorT12M78e321_0
import Derived.Test.YtbgiemgoafjohaaGreatDoorT12M78e321_1
set_option linter.unusedVariables false
set_option linter.unusedSimpArgs false
set_option linter.unusedSectionVars false
namespace AE.Tryz
open Go AE Go.Proofs
set_option maxRecDepth 1000000
noncomputable def Q9:AE.KerP.Hr:=fun g=>bif Nat.beq g 321 then some (AE.Memo.hook EA)else none
theorem UV:∀m∈EA,m.run Tryz.prog kt Ow Jk L9 1000000 1000000 321=true:=fun m hm=>by
 have h:EA=(EA.drop 0).take 2++(EA.drop 2).take 2:=rfl
 rw[h]at hm
 simp only[List.mem_append]at hm
 rcases hm with hm|hm
 ·exact List.all_eq_true.1 Rb m hm
 ·exact List.all_eq_true.1 Ra m hm
theorem aI:AE.KerP.Fl Tryz.prog Q9:=fun g F h=>by
 unfold Q9 at h
 cases hg:Nat.beq g 321<;>simp only[hg,cond_true,cond_false]at h
 rotate_left
 ·obtain rfl:=Nat.eq_of_beq_eq_true hg
  cases h
  exact AE.Memo.KI rfl (AE.KerP.Lh rfl Jk AE.KerP.E9) (AE.KerP.Jd rfl Jk) UV
 cases h
theorem kN:AE.KerD.CG Tryz.prog (AE.KerP.tab Tryz.prog Ms Q9) (AE.KerP.Ry Tryz.prog Ms) Ms L9 1000000 1000000 147=true:=by kernel_rfl
theorem oD {h:H}:AW Tryz.prog 147 h.next h [] (fun v h'=>v= .bool true/\h'=h):=AE.KerP.El rfl aI kN
end AE.Tryz
