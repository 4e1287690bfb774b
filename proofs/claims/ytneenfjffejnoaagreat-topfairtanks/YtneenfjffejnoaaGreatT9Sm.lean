/- What a hull can have is small. -/
import Derived.Test.YtneenfjffejnoaaGreatJoin56
set_option linter.unusedVariables false
set_option linter.unusedSimpArgs false
set_option linter.unusedSectionVars false
namespace AE.Tryz
set_option linter.unusedVariables false
theorem Agr.V1 {T:AgreeS.Table}(h:T.Ok) (j:Nat): -12000000<=Agr.TX T j/\Agr.TX T j<=12000000/\ -12000000<=Agr.UD T j/\Agr.UD T j<=12000000:=by
 unfold Agr.TX Agr.UD
 by_cases he:Agr.sErr T j=0
 ·rw[if_pos he,if_pos he]
  obtain⟨ha,ht⟩:=Agr.KD.1 he
  have h1:=Agr.Mz h ha (1+T.tanks+j)
  have h2:=Agr.NI h ha (1+T.tanks+j)
  unfold AgreeS.M at h1 h2
  unfold AgreeS.Ey AgreeS.CZ
  omega
 ·rw[if_neg he,if_neg he];omega
end AE.Tryz
