/- Walks and plain laws: T9ClD, T12Cl. -/
import Derived.Test.YtbgiemgoafjohaaGreatDoorJoin56
import Derived.Test.YtbgiemgoafjohaaGreatDoorT12Code3
import Derived.Test.YtbgiemgoafjohaaGreatDoorJoin87
import Derived.Test.YtbgiemgoafjohaaGreatDoorAEthree
set_option linter.unusedVariables false
set_option linter.unusedSimpArgs false
set_option linter.unusedSectionVars false

/- maps.Clone, for evaluations: what stands for it. -/
namespace AE.Memo
open Go AE
noncomputable def LK (args:List Value) (kh:KH) (k:Value->KH->Bool):Bool:=match args with
 | [.map (some r)]=>match kh.rows.get r with
   |some (.row (.map es c))=>Ce (Nat.add kh.next 8) fun n=>Ce (Nat.add kh.next 9) fun nx=>KT.Dl (.row (.map es c)) 64 kh.rows n fun rows=>k (.map (some n)) ⟨nx,rows⟩
   |_=>false
 |_=>false
end AE.Memo

/- maps.Clone, for evaluations: what stands for it. -/
namespace AE.Tryz
open Go AE Go.Proofs
set_option maxRecDepth 100000
theorem rx:Extern.findNext Tryz.f461=none:=by kernel_rfl
theorem ru:Extern.find Tryz.f461=some Extern.MapsClone.clone:=by kernel_rfl
theorem rq:Tryz.prog.funcs[461]? =some Tryz.f461:=rfl
theorem rj:(Tryz.f461.name== "runtime.NumGoroutine")=false:=by kernel_rfl
theorem cY (xs:Array Value) (w:World):(callFunc 461 xs).run Tryz.prog w=((Extern.MapsClone.clone xs).run Tryz.prog w).andThen fun v w'=>.ok (.value v) w':=by
 unfold callFunc
 have e5:Tryz.f461.body.isNone=true:=rfl
 simp only[Sem.run_bind,program,Sem.run,mark]
 simp only[Result.andThen,rq,rj,e5,rx,ru,Bool.false_eq_true,if_false,if_true,Sem.run_bind,Sem.run]
 cases(Sem.run Tryz.prog (Extern.MapsClone.clone xs) w)<;>rfl
theorem ZV {h:H}{r:Nat}{es:List MapEntry}{c:Nat}(hg:h.get r=some (.map es c)):AW Tryz.prog 349 h.next h [.map (some r)] (fun v h'=>v= .map (some (h.next+8))/\h'.next=h.next+9/\∀s,h'.get s=if s=h.next+8 then some (.map es c)else h.get s):=by
 refine gW.call rfl (Nat.le_refl _) ?_
 unfold mS
 (refine Ai ?_)
 refine Ov.raw (S0 (r:=r) (es:=es) (c:=c) cY (by show h.next<=_;simp only[C0];omega) Aa) ?_
 (refine Ai ?_)
 (refine AA ?_)
 exact⟨rfl,rfl,fun s=>rfl⟩
theorem ZU:AE.KerT.HookOk Tryz.prog 349 AE.Memo.LK:=fun lo args kh k hk hlo=>by
 unfold AE.Memo.LK at hk
 split at hk
 ·rename_i r
  split at hk
  ·rename_i es c hg
   simp only[CM]at hk
   obtain⟨t,hk,ht⟩:=KT.Bl 64 hk
   obtain⟨v,h',⟨rfl,e1,e2⟩,a⟩:=ZV (h:=kh.abs) (r:=r) (es:=es) (c:=c) (by simp[KH.abs,hg,Fy.abs])
   refine⟨_,_,hk,?_⟩
   have:h'=KH.abs ⟨Nat.add kh.next 9,t⟩:=by
    obtain⟨g',n'⟩:=h'
    simp only at e1 e2
    subst e1
    simp only[KH.abs,H.mk.injEq]
    refine⟨funext fun s=>?_,by first|trivial|rfl⟩
    rw[e2 s,ht s]
    show(if s=kh.next+8 then some (A9.map es c)else _)=_
    by_cases hs:s=kh.next+8
    ·rw[if_pos hs,if_pos hs];rfl
    ·rw[if_neg hs,if_neg hs];rfl
   rw[<-this]
   exact a.mono hlo
  ·cases hk
 ·cases hk
end AE.Tryz
