/- Works of law06, by evaluation, with CheckTable by its own walk. -/
import Derived.Test.YtneenfjffejnoaaGreatT9F154
set_option linter.unusedVariables false
set_option linter.unusedSimpArgs false
set_option linter.unusedSectionVars false
namespace AE.Tryz
open Go AE Go.Proofs
set_option maxRecDepth 1000000
def XE:Value:=.tuple ⟨[.int .i64 3,.int .i64 0]⟩
def Rl:AE.Memo.Kept:=⟨Pe,14370,[(12,cF),(14369,lR)],XE⟩
theorem Abv:∃t:KT H9,(∀r row,t.get r=some row->∃x,(r,x)∈Rl.rows/\row= .row x)/\N3 Tryz.prog 154 14370 (⟨14370,t⟩:KH).abs Pe (fun w _=>w=XE):=by
 obtain⟨t,hk,hg⟩:=AE.Memo.KJ sB
 refine⟨t,fun r row e=>?_,?_⟩
 ·rcases hg r row e with e|e
  ·rw[KT.get_nil]at e;cases e
  ·exact e
 ·obtain⟨tk,hk,ht⟩:=IE hk
  have a:=AE.KerD.Dz rfl VM VN _ _ hk
  simp only[AE.KerD.B5.Spec]at a
  have ets:Js Pe=Fw tk:=by
   funext m
   rw[ht m,if_neg (Nat.not_lt_zero m),Nat.sub_zero]
   unfold Js
   cases e:Pe[m]? with
   |none=>simp[List.getD,e,Fw,KT.get_nil]
   |some v=>simp[List.getD,e]
  refine t7.fQ rfl (Nat.le_refl _) ?_
  rw[ets]
  refine Un (AE.KerD.DG _ (fun e ts h x=>?_) _ _ a)
  obtain⟨tk',hk',rfl,rfl,x⟩:=x
  obtain⟨rfl,k⟩:=Acf x
  exact⟨rfl,Gy.toD rY (by rfl) _ _ (xo k)⟩
noncomputable def pK (args:List Value) (kh:KH) (k:Value->KH->Bool):Bool:=Bool.rec (motive:=fun _=>Bool) false (k XE kh) (Rl.fits args kh)
theorem Ag1:AE.KerT.HookOk Tryz.prog 154 pK:=fun lo args kh k h hlo=>by
 have h':Bool.rec (motive:=fun _=>Bool) false (k XE kh) (Rl.fits args kh)=true:=h
 cases hf:Rl.fits args kh with
 |false=>rw[hf]at h';cases h'
 | true=>
   rw[hf]at h'
   refine⟨XE,kh,h',?_⟩
   simp only[AE.Memo.Kept.fits,Bool.and_eq_true]at hf
   obtain⟨⟨h1,h2⟩,h3⟩:=hf
   obtain⟨rfl,hl⟩:=AE.Memo.EY (fun _ _=>AE.Memo.Gz 8) h2
   obtain⟨t,hg,a⟩:=Abv
   have hle:14370<=kh.next:=Nat.le_of_ble_eq_true h1
   refine AE.Memo.part (h0:=(⟨14370,t⟩:KH).abs) (h:=kh.abs) a rfl hle (fun r row e=>?_) hl lo
   simp only[KH.abs,Option.map_eq_some_iff]at e
   obtain⟨kr,e,rfl⟩:=e
   obtain⟨x,hx,rfl⟩:=hg r kr e
   obtain⟨q1,q2,q3⟩:=AE.Memo.JB h3 r x hx
   exact⟨q1,by simp only[KH.abs,q2];rfl,q3⟩
noncomputable def x77:AE.KerP.Ml:=fun g=>bif Nat.beq g 154 then some pK else none
theorem wP:AE.KerP.JO Tryz.prog x77:=fun g F h=>by
 unfold x77 at h
 cases hg:Nat.beq g 154<;>simp only[hg,cond_true,cond_false]at h
 rotate_left
 ·obtain rfl:=Nat.eq_of_beq_eq_true hg
  cases h
  exact Ag1
 cases h
theorem Amu:AE.KerD.ER Tryz.prog (AE.KerP.tab Tryz.prog QS x77) (AE.KerP.Z6 Tryz.prog QS) QS SC 1000000 1000000 77=true:=by kernel_rfl
theorem w77 {h:H}:AW Tryz.prog 77 h.next h [] (fun v h'=>v= .bool true/\h'=h):=AE.KerP.GY rfl wP Amu
end AE.Tryz
