/- Walks and plain laws: AEKerP, T9Nd. -/
import Derived.Test.YtneenfjffejnoaaGreatAEKerD
import Derived.Test.YtneenfjffejnoaaGreatProg
import Derived.KernelRfl
set_option linter.unusedVariables false
set_option linter.unusedSimpArgs false
set_option linter.unusedSectionVars false

/- The tables of AEKerT and AEKerD out of the program itself: no code is printed. -/
set_option linter.unusedVariables false
namespace AE.KerP
open Go AE
open AE.KerT (KFn TabOk AllT allT_ok HookOk FnOk)
abbrev Ml:=Nat->Option (List Value->KH->(Value->KH->Bool)->Bool)
def JO (P:Program) (X:Ml):Prop:=∀g F,X g=some F->HookOk P g F
def eJ:Ml:=fun _=>none
theorem Ht {P:Program}:JO P eJ:=fun _ _ h=>nomatch h
open AE.KerD (TabDOk AllD allD_ok)

noncomputable def mk (P:Program) (cc:Nat->Code->Option Ay) (g:Nat):Option KFn:=
 match P.funcs[g]? with
 |none=>none
 | some fn=>match fn.body with
   |none=>none
   | some c=>match cc fn.ntmps c with
     |none=>none
     |some A=>if fn.params.size+fn.nfree<=fn.ntmps/\(fn.name== "runtime.NumGoroutine")=false then some {n:=fn.ntmps,na:=fn.params.size+fn.nfree,A:=A,rs:=fn.results.toList}else none
theorem eQ {P:Program}{cc:Nat->Code->Option Ay}{g:Nat}{e:KFn}(h:mk P cc g=some e):
 ∃fn c,P.funcs[g]? =some fn/\fn.body=some c/\fn.ntmps=e.n/\e.na<=e.n/\fn.results=⟨e.rs⟩/\cc e.n c=some e.A/\(fn.name== "runtime.NumGoroutine")=false/\e.hook=none:=by
 unfold mk at h
 split at h
 ·cases h
 ·rename_i fn hf
  split at h
  ·cases h
  ·rename_i c hc
   split at h
   ·cases h
   ·rename_i A hA
    split at h
    ·rename_i hb
     cases h
     exact⟨fn,c,hf,hc,rfl,hb.1,rfl,hA,hb.2,rfl⟩
    ·cases h

noncomputable def tree (v:Nat->Option KFn):Nat->Nat->Nat->KT KFn
 |0,_,_=>.nil
 |d+1,mul,add=>.node (tree v d (2*mul) (mul+add)) (v add) (tree v d (2*mul) (2*mul+add))
theorem Aef (mul add:Nat):(fun m=>mul* (2*m+1)+add)=fun m=>2*mul*m+(mul+add):=by
 funext m;rw[Nat.mul_add,Nat.mul_one,<-Nat.mul_assoc,Nat.mul_comm mul 2,Nat.add_assoc]
theorem Aee (mul add:Nat):(fun m=>mul* (2*m+2)+add)=fun m=>2*mul*m+(2*mul+add):=by
 funext m;rw[Nat.mul_add,<-Nat.mul_assoc,Nat.mul_comm mul 2,Nat.add_assoc]

noncomputable def one (P:Program) (nd:List Nat) (X:Ml) (g:Nat):Option KFn:=match X g with
 |some F=>some {n:=0,na:=0,A:=.skip,rs:=[],hook:=some F}
 |none=>bif nd.elem g then none else mk P (fun n c=>ET P n true c) g
noncomputable def many (P:Program) (nd:List Nat) (g:Nat):Option KFn:=bif nd.elem g then mk P (fun n c=>Du P nd n true c) g else none
theorem allT {P:Program}(hm:P.follows .mixedOrders=true) (nd:List Nat) {X:Ml}(hX:JO P X):∀d mul add,AllT P (fun m=>mul*m+add) (tree (one P nd X) d mul add)
 |0,_,_=>trivial
 | d +1,mul,add=>by
   refine⟨fun e h=>?_,?_,?_⟩
   ·have h':(match X add with
     |some F=>some {n:=0,na:=0,A:=.skip,rs:=[],hook:=some F}
     |none=>bif nd.elem add then none else mk P (fun n c=>ET P n true c) add)=some e:=h
    show FnOk P (mul*0+add) e
    rw[Nat.mul_zero,Nat.zero_add]
    split at h'
    ·rename_i F hF
     cases h'
     exact hX _ _ hF
    ·cases hb:nd.elem add<;>simp only[hb,cond_true,cond_false]at h'
     ·obtain⟨fn,c,h1,h2,h3,h4,h5,h6,h7,h8⟩:=eQ h'
      unfold FnOk
      rw[h8]
      exact⟨hm,fn,c,h1,h2,h3,h4,h5,h6,h7⟩
     ·nomatch h'
   ·exact Aef mul add▸allT hm nd hX d _ _
   ·exact Aee mul add▸allT hm nd hX d _ _
theorem Acj {P:Program}(hm:P.follows .mixedOrders=true) (nd:List Nat):∀d mul add,AllD P (fun m=>mul*m+add) (tree (many P nd) d mul add)
 |0,_,_=>trivial
 | d +1,mul,add=>by
   refine⟨fun e h=>?_,?_,?_⟩
   ·have h':(bif nd.elem add then mk P (fun n c=>Du P nd n true c) add else none)=some e:=h
    cases hb:nd.elem add<;>simp only[hb,cond_true,cond_false]at h'
    ·nomatch h'
    ·obtain⟨fn,c,h1,h2,h3,h4,h5,h6,h7,_⟩:=eQ h'
     show dr P (mul*0+add) _ _ _ _
     rw[Nat.mul_zero,Nat.zero_add]
     exact⟨hm,nd,fn,c,h1,h2,h3,h4,h5,h6,h7⟩
   ·exact Aef mul add▸Acj hm nd d _ _
   ·exact Aee mul add▸Acj hm nd d _ _
noncomputable def tab (P:Program) (nd:List Nat) (X:Ml):KT KFn:=tree (one P nd X) 10 1 0
noncomputable def Z6 (P:Program) (nd:List Nat):KT KFn:=tree (many P nd) 10 1 0
theorem Ps {P:Program}(hm:P.follows .mixedOrders=true) (nd:List Nat) {X:Ml}(hX:JO P X):TabOk P (tab P nd X):=
 allT_ok (by have:=allT hm nd hX 10 1 0;simp only[Nat.one_mul,Nat.add_zero]at this;exact this)
theorem Mq {P:Program}(hm:P.follows .mixedOrders=true) (nd:List Nat):TabDOk P (Z6 P nd):=
 allD_ok (by have:=Acj hm nd 10 1 0;simp only[Nat.one_mul,Nat.add_zero]at this;exact this)
theorem GY {P:Program}{nd mg:List Nat}(hm:P.follows .mixedOrders=true) {X:Ml}(hX:JO P X) {D f g:Nat}(he:AE.KerD.ER P (tab P nd X) (Z6 P nd) nd mg D f g=true) {lo:Nat}{h:H}:AW P g lo h [] (fun v h'=>v= .bool true/\h'=h):=
 AE.KerD.GY hm (Ps hm nd hX) (Mq hm nd) he
end AE.KerP

/- Which functions may come to many ends (round r7); their tables out of the program itself. -/
namespace AE.Tryz
open Go AE Go.Proofs
def M9:List Nat:=[3,4,5,6,7,13,32,33,47,76,77,78,83,86,146,152,154,160,172,180,182,231,253,313,314,315,316,317,374,379,405,408]
def QS:List Nat:=[3,4,5,6,7,13,32,47,76,77,78,146,152,154,160,231,253,313,314,315,316,317,374,379,405,408]
def SC:List Nat:=[315,172,47,152]
noncomputable def kt:AE.KT AE.KerT.KFn:=AE.KerP.tab Tryz.prog M9 AE.KerP.eJ
noncomputable def UY:=AE.KerP.Z6 Tryz.prog M9
theorem kc {g:Nat}(he:AE.KerD.ER Tryz.prog kt UY M9 SC 1000000 1000000 g=true) {lo:Nat}{h:H}:AW Tryz.prog g lo h [] (fun v h'=>v= .bool true/\h'=h):=AE.KerP.GY rfl AE.KerP.Ht he
end AE.Tryz
