/- Runs of a walk that come to one place. -/
import Derived.Test.YtneenfjffejnoaaGreatAEthree
set_option linter.unusedVariables false
set_option linter.unusedSimpArgs false
set_option linter.unusedSectionVars false
namespace AE
open Go
structure Boxed (p:Prop):Prop where
 v:p
theorem Aj {G G':Prop}(g:G') (t:Boxed G'->G:=by(intro g;((try with_reducible apply wpC.to);(repeat'((conv=>whnf);first|refine Ak ?_|((with_reducible apply Fork.mk)<;>(intro hb;first|(exfalso;omega)|clear hb))|fail));(conv=>whnf);(try with_reducible apply At.mk);exact g.v;(first|done|fail)))):G:=t ⟨g⟩
end AE
