/- Walks and plain laws: T9ClD, T9Cl. -/
import Derived.Test.YtneenfjffejnoaaGreatJoin62
import Derived.Test.YtneenfjffejnoaaGreatT9Code
import Derived.Test.YtneenfjffejnoaaGreatJoin7
import Derived.Test.YtneenfjffejnoaaGreatAEthree
set_option linter.unusedVariables false
set_option linter.unusedSimpArgs false
set_option linter.unusedSectionVars false

/- maps.Clone, for evaluations: what stands for it. -/
namespace AE.Memo
open Go AE
noncomputable def P5 (args:List Value) (kh:KH) (k:Value->KH->Bool):Bool:=match args with
 | [.map (some r)]=>match kh.rows.get r with
   |some (.row (.map es c))=>DL (Nat.add kh.next 8) fun n=>DL (Nat.add kh.next 9) fun nx=>KT.Fb (.row (.map es c)) 64 kh.rows n fun rows=>k (.map (some n)) ⟨nx,rows⟩
   |_=>false
 |_=>false
end AE.Memo

/- maps.Clone, for evaluations: what stands for it. -/
namespace AE.Tryz
open Go AE Go.Proofs
set_option maxRecDepth 100000
theorem An0:Extern.findNext Tryz.f195=none:=by kernel_rfl
theorem Anz:Extern.find Tryz.f195=some Extern.MapsClone.clone:=by kernel_rfl
theorem Anx:Tryz.prog.funcs[195]? =some Tryz.f195:=rfl
theorem Anw:(Tryz.f195.name== "runtime.NumGoroutine")=false:=by kernel_rfl
theorem uI (xs:Array Value) (w:World):(callFunc 195 xs).run Tryz.prog w=((Extern.MapsClone.clone xs).run Tryz.prog w).andThen fun v w'=>.ok (.value v) w':=by
 unfold callFunc
 have e5:Tryz.f195.body.isNone=true:=rfl
 simp only[Sem.run_bind,program,Sem.run,mark]
 simp only[Result.andThen,Anx,Anw,e5,An0,Anz,Bool.false_eq_true,if_false,if_true,Sem.run_bind,Sem.run]
 cases(Sem.run Tryz.prog (Extern.MapsClone.clone xs) w)<;>rfl
theorem pI {h:H}{r:Nat}{es:List MapEntry}{c:Nat}(hg:h.get r=some (.map es c)):AW Tryz.prog 106 h.next h [.map (some r)] (fun v h'=>v= .map (some (h.next+8))/\h'.next=h.next+9/\∀s,h'.get s=if s=h.next+8 then some (.map es c)else h.get s):=by
 refine oK.call rfl (Nat.le_refl _) ?_
 unfold Acm
 (focus((try with_reducible apply wpC.to);(repeat'((conv=>whnf);first|refine Ak ?_|fail));all_goals((conv=>whnf);try with_reducible apply At.mk)))
 refine TP.raw (Qz (r:=r) (es:=es) (c:=c) uI (by show h.next<=_;simp only[AY];omega) Aa) ?_
 (focus((try with_reducible apply wpC.to);(repeat'((conv=>whnf);first|refine Ak ?_|fail));all_goals((conv=>whnf);try with_reducible apply At.mk)))
 (refine Au ?_)
 exact⟨rfl,rfl,fun s=>rfl⟩
theorem pH:AE.KerT.HookOk Tryz.prog 106 AE.Memo.P5:=fun lo args kh k hk hlo=>by
 unfold AE.Memo.P5 at hk
 split at hk
 ·rename_i r
  split at hk
  ·rename_i es c hg
   simp only[ED]at hk
   obtain⟨t,hk,ht⟩:=KT.Cd 64 hk
   obtain⟨v,h',⟨rfl,e1,e2⟩,a⟩:=pI (h:=kh.abs) (r:=r) (es:=es) (c:=c) (by simp[KH.abs,hg,H9.abs])
   refine⟨_,_,hk,?_⟩
   have:h'=KH.abs ⟨Nat.add kh.next 9,t⟩:=by
    obtain⟨g',n'⟩:=h'
    simp only at e1 e2
    subst e1
    simp only[KH.abs,H.mk.injEq]
    refine⟨funext fun s=>?_,by first|trivial|rfl⟩
    rw[e2 s,ht s]
    show(if s=kh.next+8 then some (BQ.map es c)else _)=_
    by_cases hs:s=kh.next+8
    ·rw[if_pos hs,if_pos hs];rfl
    ·rw[if_neg hs,if_neg hs];rfl
   rw[<-this]
   exact a.mono hlo
  ·cases hk
 ·cases hk
end AE.Tryz
