/- Works of the layers up to 9. -/
import Derived.Test.YtneenfjffejnoaaGreatT9Code
import Derived.Test.YtneenfjffejnoaaGreatT9K229
import Derived.Test.YtneenfjffejnoaaGreatT9K230
import Derived.Test.YtneenfjffejnoaaGreatT9K231
import Derived.Test.YtneenfjffejnoaaGreatT9K147
import Derived.Test.YtneenfjffejnoaaGreatT9K148
import Derived.Test.YtneenfjffejnoaaGreatT9W77
import Derived.Test.YtneenfjffejnoaaGreatT9M78
import Derived.Test.YtneenfjffejnoaaGreatT9M33
import Derived.Test.YtneenfjffejnoaaGreatT9M34
import Derived.Test.YtneenfjffejnoaaGreatAEthree
set_option linter.unusedVariables false
set_option linter.unusedSimpArgs false
set_option linter.unusedSectionVars false
namespace AE.Tryz
open Go AE Go.Proofs
set_option maxRecDepth 100000
theorem Ajk {h:H}:AW Tryz.prog 229 h.next h [] (fun v h'=>v= .bool true/\h'=h):=kc Ad2
theorem Ajj {h:H}:AW Tryz.prog 230 h.next h [] (fun v h'=>v= .bool true/\h'=h):=kc Ad1
theorem Aji {h:H}:AW Tryz.prog 231 h.next h [] (fun v h'=>v= .bool true/\h'=h):=kc Ad0
theorem Ajm {h:H}:AW Tryz.prog 147 h.next h [] (fun v h'=>v= .bool true/\h'=h):=kc Ad4
theorem Ajl {h:H}:AW Tryz.prog 148 h.next h [] (fun v h'=>v= .bool true/\h'=h):=kc Ad3
theorem gM {h:H}:AW Tryz.prog 146 h.next h [] (fun v _=>v= .bool true):=by
 refine z3.call rfl (Nat.le_refl _) ?_
 unfold a146
 (focus((try with_reducible apply wpC.to);(repeat'((conv=>whnf);first|refine Ak ?_|fail));all_goals((conv=>whnf);try with_reducible apply At.mk)))
 apply Ar
 focus(exact Ao)
 focus(exact AQ)
 focus exact Ajk
 rintro _ _ ⟨rfl,rfl⟩ q hn
 (focus((try with_reducible apply wpC.to);(repeat'((conv=>whnf);first|refine Ak ?_|fail));all_goals((conv=>whnf);try with_reducible apply At.mk)))
 apply Ar
 focus(exact Ao)
 focus(exact AQ)
 focus exact Ajj
 rintro _ _ ⟨rfl,rfl⟩ q hn
 (focus((try with_reducible apply wpC.to);(repeat'((conv=>whnf);first|refine Ak ?_|fail));all_goals((conv=>whnf);try with_reducible apply At.mk)))
 apply Ar
 focus(exact Ao)
 focus(exact AQ)
 focus exact Aji
 rintro _ _ ⟨rfl,rfl⟩ q hn
 (focus((try with_reducible apply wpC.to);(repeat'((conv=>whnf);first|refine Ak ?_|fail));all_goals((conv=>whnf);try with_reducible apply At.mk)))
 (refine Au ?_)
 rfl
theorem gL {h:H}:AW Tryz.prog 76 h.next h [] (fun v _=>v= .bool true):=by
 refine Ae3.call rfl (Nat.le_refl _) ?_
 unfold a76
 (focus((try with_reducible apply wpC.to);(repeat'((conv=>whnf);first|refine Ak ?_|fail));all_goals((conv=>whnf);try with_reducible apply At.mk)))
 apply Dw
 focus(exact Ao)
 focus(exact AQ)
 focus exact gM
 intro _ q hn
 (focus((try with_reducible apply wpC.to);(repeat'((conv=>whnf);first|refine Ak ?_|fail));all_goals((conv=>whnf);try with_reducible apply At.mk)))
 apply Ar
 focus(exact Ao)
 focus(exact AQ)
 focus exact Ajm
 rintro _ _ ⟨rfl,rfl⟩ q hn
 (focus((try with_reducible apply wpC.to);(repeat'((conv=>whnf);first|refine Ak ?_|fail));all_goals((conv=>whnf);try with_reducible apply At.mk)))
 apply Ar
 focus(exact Ao)
 focus(exact AQ)
 focus exact Ajl
 rintro _ _ ⟨rfl,rfl⟩ q hn
 (focus((try with_reducible apply wpC.to);(repeat'((conv=>whnf);first|refine Ak ?_|fail));all_goals((conv=>whnf);try with_reducible apply At.mk)))
 (refine Au ?_)
 rfl
theorem gK {h:H}:AW Tryz.prog 32 h.next h [] (fun v _=>v= .bool true):=by
 refine Af5.call rfl (Nat.le_refl _) ?_
 unfold a32
 (focus((try with_reducible apply wpC.to);(repeat'((conv=>whnf);first|refine Ak ?_|fail));all_goals((conv=>whnf);try with_reducible apply At.mk)))
 apply Dw
 focus(exact Ao)
 focus(exact AQ)
 focus exact gL
 intro _ q hn
 (focus((try with_reducible apply wpC.to);(repeat'((conv=>whnf);first|refine Ak ?_|fail));all_goals((conv=>whnf);try with_reducible apply At.mk)))
 apply Ar
 focus(exact Ao)
 focus(exact AQ)
 focus exact w77
 rintro _ _ ⟨rfl,rfl⟩ q hn
 (focus((try with_reducible apply wpC.to);(repeat'((conv=>whnf);first|refine Ak ?_|fail));all_goals((conv=>whnf);try with_reducible apply At.mk)))
 apply Ar
 focus(exact Ao)
 focus(exact AQ)
 focus exact w78
 rintro _ _ ⟨rfl,rfl⟩ q hn
 (focus((try with_reducible apply wpC.to);(repeat'((conv=>whnf);first|refine Ak ?_|fail));all_goals((conv=>whnf);try with_reducible apply At.mk)))
 (refine Au ?_)
 rfl
theorem Uo {h:H}:AW Tryz.prog 7 h.next h [] (fun v _=>v= .bool true):=by
 refine Ank.call rfl (Nat.le_refl _) ?_
 unfold a7
 (focus((try with_reducible apply wpC.to);(repeat'((conv=>whnf);first|refine Ak ?_|fail));all_goals((conv=>whnf);try with_reducible apply At.mk)))
 apply Dw
 focus(exact Ao)
 focus(exact AQ)
 focus exact gK
 intro _ q hn
 (focus((try with_reducible apply wpC.to);(repeat'((conv=>whnf);first|refine Ak ?_|fail));all_goals((conv=>whnf);try with_reducible apply At.mk)))
 apply Ar
 focus(exact Ao)
 focus(exact AQ)
 focus exact w33
 rintro _ _ ⟨rfl,rfl⟩ q hn
 (focus((try with_reducible apply wpC.to);(repeat'((conv=>whnf);first|refine Ak ?_|fail));all_goals((conv=>whnf);try with_reducible apply At.mk)))
 apply Ar
 focus(exact Ao)
 focus(exact AQ)
 focus exact w34
 rintro _ _ ⟨rfl,rfl⟩ q hn
 (focus((try with_reducible apply wpC.to);(repeat'((conv=>whnf);first|refine Ak ?_|fail));all_goals((conv=>whnf);try with_reducible apply At.mk)))
 (refine Au ?_)
 rfl
theorem HQ {G:Prop}(g:G:=by((apply Uo))):G:=g
theorem AH {G G':Prop}(g:G') (t:G'->G:=by((apply Ar);(focus exact Ao);(focus exact AQ);(focus((apply Uo))))):G:=t g
end AE.Tryz
