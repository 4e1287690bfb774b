/- Works of law06, by evaluation, with CheckTable by its own walk. -/
import Derived.Test.YtbgiemgoafjohaaGreatDoorT12F154
set_option linter.unusedVariables false
set_option linter.unusedSimpArgs false
set_option linter.unusedSectionVars false
namespace AE.Tryz
open Go AE Go.Proofs
set_option maxRecDepth 1000000
def Rx:Value:=.tuple ⟨[.int .i64 3,.int .i64 0]⟩
def MH:AE.Memo.Kept:=⟨K0,14370,[(12,UC),(14369,Yk)],Rx⟩
theorem je:∃t:KT Fy,(∀r row,t.get r=some row->∃x,(r,x)∈MH.rows/\row= .row x)/\Jv Tryz.prog 297 14370 (⟨14370,t⟩:KH).abs K0 (fun w _=>w=Rx):=by
 obtain⟨t,hk,hg⟩:=AE.Memo.HA bI
 refine⟨t,fun r row e=>?_,?_⟩
 ·rcases hg r row e with e|e
  ·rw[KT.get_nil]at e;cases e
  ·exact e
 ·obtain⟨tk,hk,ht⟩:=FT hk
  have a:=AE.KerD.Cj rfl P1 P4 _ _ hk
  simp only[AE.KerD.A7.Spec]at a
  have u7:FG K0=DR tk:=by
   funext m
   rw[ht m,if_neg (Nat.not_lt_zero m),Nat.sub_zero]
   unfold FG
   cases e:K0[m]? with
   |none=>simp[List.getD,e,DR,KT.get_nil]
   |some v=>simp[List.getD,e]
  refine cN.VU rfl (Nat.le_refl _) ?_
  rw[u7]
  refine OP (AE.KerD.Co _ (fun e ts h x=>?_) _ _ a)
  obtain⟨tk',hk',rfl,rfl,x⟩:=x
  obtain⟨rfl,k⟩:=jl x
  exact⟨rfl,DV.toD bD (by rfl) _ _ (fB k)⟩
noncomputable def ZW (args:List Value) (kh:KH) (k:Value->KH->Bool):Bool:=Bool.rec (motive:=fun _=>Bool) false (k Rx kh) (MH.fits args kh)
theorem mB:AE.KerT.HookOk Tryz.prog 297 ZW:=fun lo args kh k h hlo=>by
 have h':Bool.rec (motive:=fun _=>Bool) false (k Rx kh) (MH.fits args kh)=true:=h
 cases hf:MH.fits args kh with
 |false=>rw[hf]at h';cases h'
 | true=>
   rw[hf]at h'
   refine⟨Rx,kh,h',?_⟩
   simp only[AE.Memo.Kept.fits,Bool.and_eq_true]at hf
   obtain⟨⟨h1,h2⟩,h3⟩:=hf
   obtain⟨rfl,hl⟩:=AE.Memo.Di (fun _ _=>AE.Memo.EK 8) h2
   obtain⟨t,hg,a⟩:=je
   have hle:14370<=kh.next:=Nat.le_of_ble_eq_true h1
   refine AE.Memo.part (h0:=(⟨14370,t⟩:KH).abs) (h:=kh.abs) a rfl hle (fun r row e=>?_) hl lo
   simp only[KH.abs,Option.map_eq_some_iff]at e
   obtain⟨kr,e,rfl⟩:=e
   obtain⟨x,hx,rfl⟩:=hg r kr e
   obtain⟨q1,q2,q3⟩:=AE.Memo.Gt h3 r x hx
   exact⟨q1,by simp only[KH.abs,q2];rfl,q3⟩
noncomputable def nW:AE.KerP.Hr:=fun g=>bif Nat.beq g 297 then some ZW else none
theorem eS:AE.KerP.Fl Tryz.prog nW:=fun g F h=>by
 unfold nW at h
 cases hg:Nat.beq g 297<;>simp only[hg,cond_true,cond_false]at h
 rotate_left
 ·obtain rfl:=Nat.eq_of_beq_eq_true hg
  cases h
  exact mB
 cases h
theorem kK:AE.KerD.CG Tryz.prog (AE.KerP.tab Tryz.prog Ms nW) (AE.KerP.Ry Tryz.prog Ms) Ms L9 1000000 1000000 214=true:=by kernel_rfl
theorem ow {h:H}:AW Tryz.prog 214 h.next h [] (fun v h'=>v= .bool true/\h'=h):=AE.KerP.El rfl eS kK
end AE.Tryz
