/- Walks and plain laws: AEKerT, AEMid, AEDX. -/
import Derived.Test.YtbgiemgoafjohaaGreatDoorJoin93
import Derived.Test.YtbgiemgoafjohaaGreatDoorAEtwo
import Derived.Test.YtbgiemgoafjohaaGreatDoorAEthree
set_option linter.unusedVariables false
set_option linter.unusedSimpArgs false
set_option linter.unusedSectionVars false

/- An evaluator for the kernel, with the functions' compiled code given in a table: closed calls by evaluation. -/
set_option linter.unusedVariables false
namespace AE.KerT
open Go AE

structure KFn where
 n:Nat
 na:Nat
 A:Aj
 rs:List ResultVar
 hook:Option (List Value->KH->(Value->KH->Bool)->Bool):=none
def HookOk (P:Program) (g:Nat) (F:List Value->KH->(Value->KH->Bool)->Bool):Prop:=
 ∀lo args kh k,F args kh k=true->lo<=kh.next->∃v Bz,k v Bz=true/\AF P g lo kh.abs args v Bz.abs
def FnOk (P:Program) (g:Nat) (e:KFn):Prop:=match e.hook with
 |none=>Eu P g e.n e.na e.A e.rs
 |some F=>HookOk P g F
def TabOk (P:Program) (T:KT KFn):Prop:=∀g e,T.get g=some e->FnOk P g e
def AllT (P:Program) (f:Nat->Nat):KT KFn->Prop
 |.nil=>True
 |.node l v r=>(∀e,v=some e->FnOk P (f 0) e)/\AllT P (fun m=>f (2*m+1)) l/\AllT P (fun m=>f (2*m+2)) r
theorem Oh {P:Program}:∀{T:KT KFn} {f:Nat->Nat},AllT P f T->∀g e,T.get g=some e->FnOk P (f g) e
 |.nil,f,_,g,e,h=>by rw[KT.get_nil]at h;exact nomatch h
 | .node l v r,f,⟨h0,hl,hr⟩,g,e,h=>by
   rw[KT.EU]at h
   by_cases g0:g=0
   ·subst g0;rw[if_pos rfl]at h;exact h0 e h
   ·rw[if_neg g0]at h
    by_cases g1:g%2=1
    ·rw[if_pos g1]at h
     have:=Oh hl _ e h
     rw[show 2* (g / 2)+1=g by omega]at this
     exact this
    ·rw[if_neg g1]at h
     have:=Oh hr _ e h
     rw[show 2* (g / 2 - 1)+2=g by omega]at this
     exact this
theorem allT_ok {P:Program}{T:KT KFn}(h:AllT P (fun m=>m) T):TabOk P T:=fun g e he=>Oh h g e he

inductive A7 where
 |code (lo:Nat) (A:Aj) (k:Exit->Dk->KH->Bool) (ts:Dk) (kh:KH)
 |loop (lo:Nat) (A:Aj) (k:Exit->Dk->KH->Bool) (ts:Dk) (kh:KH)
 |ops (lo:Nat) (q:Bool) (base i:Nat) (ops:List Ao) (k:Dk->KH->Bool) (ts:Dk) (kh:KH)
 |call (lo:Nat) (fv:Value) (args:List Value) (kh:KH) (k:Value->KH->Bool)
 |fn (lo g:Nat) (args:List Value) (kh:KH) (k:Value->KH->Bool)

section
variable (P:Program) (ih:A7->Bool) (lo:Nat) (k:Exit->Dk->KH->Bool) (ts:Dk) (kh:KH)
noncomputable def Zg (a b:Aj):Bool:=ih (.code lo a (fun e ts kh=>match e with|.normal=>ih (.code lo b k ts kh)|e=>k e ts kh) ts kh)
noncomputable def He (c:AP) (a b:Aj):Bool:=Ij ts c fun v=>match v with
 |.bool t=>Bool.rec (motive:=fun _=>Bool) (ih (.code lo b k ts kh)) (ih (.code lo a k ts kh)) t
 |_=>false
noncomputable def NK (id:Nat) (c:Aj):Bool:=ih (.code lo c (fun e ts kh=>match e with|.exit id'=>Bool.rec (motive:=fun _=>Bool) (k (.exit id') ts kh) (k .normal ts kh) (Nat.beq id' id)|e=>k e ts kh) ts kh)
noncomputable def Lr (ops:List Ao):Bool:=HX kh ops.length fun Bz=>ih (.ops lo false kh.next 0 ops (fun ts kh=>k .normal ts kh) ts Bz)
noncomputable def G8 (ops:List Ao) (ap:List (AP × AP)):Bool:=HX kh ops.length fun Bz=>ih (.ops lo true kh.next 0 ops (fun ts kh=>Bool.rec (motive:=fun _=>Bool) false (k .normal ts kh) (I6 ap (DR ts))) ts Bz)
noncomputable def Fb (f:AP) (ps:List Nat) (n:Nat) (CB body:Code):Bool:=Ij ts f fun v=>match v with
 | .func (.func g) ⟨first⟩ ⟨BL⟩=>KT.Dl (.loop .ready .none n ts ps CB body) 64 kh.rows kh.next fun rows=>HX ⟨kh.next,rows⟩ 1 fun Pm=>
  ih (.fn lo g (first++[.func (.yield kh.next) ⟨[]⟩ ⟨[]⟩]++BL) Pm fun _ QC=>match QC.rows.get kh.next with
   |some (.loop .busy _ _ _ _ _ _)=>false
   |some (.loop _ pd _ _ _ _ _)=>KT.Dl (.row .gone) 64 QC.rows kh.next fun rows=>k (F0 pd) ts ⟨QC.next,rows⟩
   |_=>false)
 |_=>false
noncomputable def KF (A:Aj):Bool:=match A with
 |.skip=>k .normal ts kh
 |.ret=>k .ret ts kh
 |.exit id=>k (.exit id) ts kh
 |.seq a b=>Zg ih lo k ts kh a b
 |.cond c a b=>He ih lo k ts kh c a b
 |.block id c=>NK ih lo k ts kh id c
 |.loop c=>ih (.loop lo c k ts kh)
 |.reg ops=>Lr ih lo k ts kh ops
 |.Ck ops ap=>G8 ih lo k ts kh ops ap
 |.range f ps n CB body _ _=>Fb ih lo k ts kh f ps n CB body
 |.next _ _ _=>false
end
section
variable (P:Program) (ih:A7->Bool) (lo:Nat)
noncomputable def QB (q:Bool) (base i:Nat) (o:Ao) (rest:List Ao) (k:Dk->KH->Bool) (ts:Dk) (kh:KH):Bool:=match o.ins with
 |.op ao=>kO P lo (base+i) ts kh (fun v Bz=>OE v o.dst ts fun ts'=>ih (.ops lo q base (i+1) rest k ts' Bz)) ao
 |.call f args=>Zb ts args fun args=>Ij ts f fun f=>ih (.call (Bool.rec (motive:=fun _=>Nat) lo kh.next q) f args kh fun v Bz=>OE v o.dst ts fun ts'=>ih (.ops lo q base (i+1) rest k ts' Bz))
noncomputable def Lp (q:Bool) (base i:Nat) (ops:List Ao) (k:Dk->KH->Bool) (ts:Dk) (kh:KH):Bool:=match ops with
 |[]=>k ts kh
 |o::rest=>Bool.rec (motive:=fun _=>Bool) (OE undef o.dst ts fun ts'=>ih (.ops lo q base (i+1) rest k ts' kh)) (QB P ih lo q base i o rest k ts kh) (BF (DR ts) o.guard)
end
section
variable (P:Program) (ih:A7->Bool) (lo:Nat)
noncomputable def QD (r:Nat) (k:Value->KH->Bool) (e:Exit) (kh:KH):Bool:=match roundEnd e with
 |none=>false
 | some p=>match kh.rows.get r with
   |some (.loop _ _ size tmps ps CB body)=>FE kh r (.loop (Nq p) p size tmps ps CB body) fun kh=>k (.bool (Ku p)) kh
   |_=>false
noncomputable def HK (r:Nat) (B:Aj) (k:Value->KH->Bool) (e:Exit) (ts:Dk) (kh:KH):Bool:=match e with
 | .normal=>(match kh.rows.get r with
   |some (.loop .ready pd size tmps ps CB body)=>FE kh r (.loop .busy pd size tmps ps CB body) fun kh=>ih (.code lo B (fun e _ kh=>QD r k e kh) ts kh)
   |_=>false)
 |_=>false
noncomputable def HG (r:Nat) (args:List Value) (kh:KH) (k:Value->KH->Bool):Bool:=match kh.rows.get r with
 | some (.loop _ _ size tmps ps CB body)=>Bool.rec (motive:=fun _=>Bool) false (match E2 P size false CB with
   |none=>false
   | some A=>match E2 P size false body with
     |none=>false
     |some B=>NJ (fun FG=>ih (.code lo A (HK ih lo r B k) FG kh)) ps args tmps) (Nat.ble lo r&&Nat.ble (r+1) kh.next&&Nat.beq args.length ps.length&&ps.all (fun p=>Nat.ble (p+1) size))
 |_=>false
noncomputable def G6 (fv:Value) (args:List Value) (kh:KH) (k:Value->KH->Bool):Bool:=match fv with
 |.func (.func g) ⟨first⟩ ⟨BL⟩=>spine (first++args++BL) fun args=>ih (.fn lo g args kh k)
 |.func (.yield r) ⟨[]⟩ ⟨[]⟩=>HG P ih lo r args kh k
 |_=>false
noncomputable def QA (k:Value->KH->Bool) (rs:List ResultVar) (e:Exit) (ts:Dk) (kh:KH):Bool:=match e with
 |.normal=>Xd kh k (E1 P kh.abs (DR ts) rs)
 |.ret=>Xd kh k (E1 P kh.abs (DR ts) rs)
 |_=>false
noncomputable def Xf (T:KT KFn) (g:Nat) (args:List Value) (kh:KH) (k:Value->KH->Bool):Bool:=match T.get g with
 |none=>false
 | some e=>match e.hook with
   |some F=>Bool.rec (motive:=fun _=>Bool) false (F args kh k) (Nat.ble lo kh.next)
   | none=>Bool.rec (motive:=fun _=>Bool) false (Pl (fun FG=>ih (.code lo e.A (QA P k e.rs) FG kh)) args 0 .nil)
     (Nat.beq args.length e.na&&Nat.ble lo kh.next)
end
noncomputable def JH (P:Program) (T:KT KFn) (ih:A7->Bool) (t:A7):Bool:=match t with
 |.code lo A k ts kh=>KF ih lo k ts kh A
 |.loop lo c k ts kh=>ih (.code lo c (fun e ts kh=>match e with|.normal=>ih (.loop lo c k ts kh)|e=>k e ts kh) ts kh)
 |.ops lo q base i ops k ts kh=>Lp P ih lo q base i ops k ts kh
 |.call lo fv args kh k=>G6 P ih lo fv args kh k
 |.fn lo g args kh k=>Xf P ih lo T g args kh k

noncomputable def Cn (P:Program) (T:KT KFn) (f:Nat):A7->Bool:=Nat.rec (motive:=fun _=>A7->Bool) (fun _=>false) (fun _ ih=>JH P T ih) f


def QK (k:Exit->Dk->KH->Bool):Exit->Ts->H->Prop:=fun e ts h=>∃tk hk,ts=DR tk/\h=hk.abs/\k e tk hk=true
def QT (k:Dk->KH->Bool):Ts->H->Prop:=fun ts h=>∃tk hk,ts=DR tk/\h=hk.abs/\k tk hk=true
def A7.Spec (P:Program) (f:Nat):A7->Prop
 |.code lo A k ts kh=>DV P lo A (QK k) (DR ts) kh.abs
 |.loop lo A k ts kh=>iter (fun K=>DV P lo A (Da K (QK k))) f (DR ts) kh.abs
 |.ops (lo) (q) (base) (i) (xs) (k) (ts) (kh)=>Run P lo q base i xs (QT k) (DR ts) kh.abs
 |.call lo fv args kh k=>∃v Bz,k v Bz=true/\Eg P fv lo kh.abs args v Bz.abs
 |.fn lo g args kh k=>∃v Bz,k v Bz=true/\AF P g lo kh.abs args v Bz.abs



theorem Cj {P:Program}{T:KT KFn}(hm:P.follows .mixedOrders=true) (hT:TabOk P T):∀(f:Nat) (t:A7),Cn P T f t=true->t.Spec P f
 |0,t,h=>Bool.noConfusion h
 | f + 1, t, h =>by
   have ih:∀t,Cn P T f t=true->t.Spec P f:=Cj hm hT f
   have h:JH P T (Cn P T f) t=true:=h
   cases t with
   | loop lo c k ts kh=>
     refine BW c ?_ _ _ (show DV P _ _ (QK _) _ _ from ih (.code ..) h)
     rintro e ts' h' ⟨tk,hk,rfl,rfl,hh⟩
     cases e with
     |normal=>exact ih _ hh
     |_=>exact⟨tk,hk,rfl,rfl,hh⟩
   | code lo A k ts kh=>
     have h:KF (Cn P T f) lo k ts kh A=true:=h
     cases A with
     |skip=>exact⟨ts,kh,rfl,rfl,h⟩
     |ret=>exact⟨ts,kh,rfl,rfl,h⟩
     |exit id=>exact⟨ts,kh,rfl,rfl,h⟩
     | seq a b=>
       refine BW a ?_ _ _ (show DV P _ _ (QK _) _ _ from ih (.code ..) h)
       rintro e ts' h' ⟨tk,hk,rfl,rfl,hh⟩
       cases e with
       |normal=>exact ih _ hh
       |_=>exact⟨tk,hk,rfl,rfl,hh⟩
     | cond c a b=>
       have h:He (Cn P T f) lo k ts kh c a b=true:=h
       unfold He at h
       rw[BJ]at h
       split at h
       ·rename_i t hc
        refine⟨t,hc,?_⟩
        cases t
        ·rw[if_neg (by simp)];exact ih _ h
        ·rw[if_pos rfl];exact ih _ h
       ·cases h
     | block id c=>
       refine BW c ?_ _ _ (show DV P _ _ (QK _) _ _ from ih (.code ..) h)
       rintro e ts' h' ⟨tk,hk,rfl,rfl,hh⟩
       cases e with
       | exit id'=>
         simp only[C9]
         simp only[EW beq_iff]at hh
         by_cases he:id'=id
         ·rw[if_pos he]
          rw[if_pos he]at hh
          exact⟨tk,hk,rfl,rfl,hh⟩
         ·rw[if_neg he]
          rw[if_neg he]at hh
          exact⟨tk,hk,rfl,rfl,hh⟩
       |_=>exact⟨tk,hk,rfl,rfl,hh⟩
     |loop c=>exact⟨f,ih (.loop ..) h⟩
     | reg ops=>
       have h:Lr (Cn P T f) lo k ts kh ops=true:=h
       unfold Lr at h
       obtain⟨Bz,h,e⟩:=CL h
       have:=ih (.ops ..) h
       simp only[A7.Spec,e]at this
       exact this
     | Ck ops ap=>
       have h:G8 (Cn P T f) lo k ts kh ops ap=true:=h
       unfold G8 at h
       obtain⟨Bz,h,e⟩:=CL h
       have:=ih (.ops ..) h
       simp only[A7.Spec,e]at this
       refine Ei ?_ this
       rintro ts' h' ⟨tk,hk,rfl,rfl,hh⟩
       simp only at hh
       cases ha:I6 ap (DR tk)with
       |false=>rw[ha]at hh;cases hh
       | true=>
         rw[ha]at hh
         exact⟨J8 ha,tk,hk,rfl,rfl,hh⟩
     | range fv ps n CB body A B=>
       have h:Fb (Cn P T f) lo k ts kh fv ps n CB body=true:=h
       unfold Fb at h
       rw[BJ]at h
       split at h
       ·rename_i g first BL hv
        obtain⟨rows,h,hp⟩:=KT.Bl 64 h
        obtain⟨Pm,h,e1⟩:=CL h
        obtain⟨v,QC,h,a⟩:=ih (.fn ..) h
        simp only at h
        refine⟨g,first,BL,hv,v,QC.abs,?_,?_⟩
        ·have:Pm.abs=kh.abs.enter (FD n (DR ts) ps CB body):=by
          rw[e1,KH.FO hp]
          rfl
         rw[<-this]
         exact a
        ·split at h
         ·cases h
         ·rename_i st pd _ _ _ _ _ hne hg
          obtain⟨rows',h,hp'⟩:=KT.Bl 64 h
          refine⟨_,JS hg,?_,ts,_,rfl,?_,h⟩
          ·intro he
           exact hne he
          ·rw[KH.FO hp']
           rfl
         ·cases h
       ·cases h
     |next x a b=>cases h
   | ops lo q base i ops k ts kh=>
     have h:Lp P (Cn P T f) lo q base i ops k ts kh=true:=h
     cases ops with
     |nil=>exact⟨ts,kh,rfl,rfl,h⟩
     | cons o rest=>
       simp only[A7.Spec,Run]
       unfold Lp at h
       simp only at h
       cases hw:BF (DR ts) o.guard with
       | false=>
         rw[hw]at h
         rw[if_neg (by simp)]
         obtain⟨ts',h,e⟩:=Dw h
         rw[<-e]
         exact ih _ h
       | true=>
         rw[hw]at h
         rw[if_pos rfl]
         simp only at h
         unfold QB at h
         split at h
         ·rename_i ao hi
          obtain⟨v,Bz,h,ha⟩:=MG h
          obtain⟨ts',h,e⟩:=Dw h
          rw[hi]
          refine⟨v,_,ha,?_⟩
          rw[<-e]
          exact ih _ h
         ·rename_i fv args hi
          rw[KE,BJ]at h
          obtain⟨v,Bz,h,ha⟩:=ih (.call ..) h
          obtain⟨ts',h,e⟩:=Dw h
          rw[hi]
          refine⟨v,Bz.abs,?_,?_⟩
          ·cases q<;>exact ha
          ·rw[<-e]
           exact ih _ h
   | call lo fv args kh k=>
     have h:G6 P (Cn P T f) lo fv args kh k=true:=h
     unfold G6 at h
     split at h
     ·rename_i g first BL
      rw[Fp]at h
      obtain⟨v,Bz,h,a⟩:=ih (.fn ..) h
      exact⟨v,Bz,h,a.V0⟩
     ·rename_i r _ _
      unfold HG at h
      split at h
      ·rename_i st pd size tmps ps CB body hg
       cases hc:(Nat.ble lo r&&Nat.ble (r+1) kh.next&&Nat.beq args.length ps.length&&ps.all (fun p=>Nat.ble (p+1) size))with
       |false=>rw[hc]at h;cases h
       | true =>
         rw[hc]at h
         simp only at h
         simp only[Bool.and_eq_true]at hc
         obtain⟨⟨⟨c1,c2⟩,c3⟩,c4⟩:=hc
         split at h
         ·cases h
         ·rename_i A hA
          split at h
          ·cases h
          ·rename_i B hB
           obtain⟨FG,h,e0⟩:=F7 h
           have hy:YA P lo r A B ⟨st,pd,size,DR tmps,ps,CB,body⟩ args kh.abs (fun v h'=>∃Bz,k v Bz=true/\h'=Bz.abs):=by
            unfold YA
            simp only
            rw[<-e0]
            refine BW A ?_ _ _ (show DV P _ _ (QK _) _ _ from ih (.code ..) h)
            rintro e FC h1 ⟨t1,k1,rfl,rfl,hh⟩
            unfold HK at hh
            cases e<;>first|(cases hh;done)|skip
            simp only at hh
            split at hh
            ·rename_i rJ dN U6 ps1 mL body1 hg1
             obtain⟨k1',hh,ep⟩:=Ct hh
             refine⟨rfl,_,JS hg1,rfl,?_⟩
             have hi:=ih (.code ..) hh
             simp only[A7.Spec,ep]at hi
             refine BW B ?_ _ _ hi
             rintro e2 Wm h2 ⟨t2,k2,rfl,rfl,hh⟩
             unfold QD at hh
             simp only at hh
             split at hh
             ·cases hh
             ·rename_i p hre
              split at hh
              ·rename_i hg2
               obtain⟨k2',hh,jK⟩:=Ct hh
               refine⟨p,_,hre,JS hg2,_,hh,?_⟩
               rw[jK]
               rfl
              ·cases hh
            ·cases hh
           obtain⟨v,h',⟨Bz,hk,rfl⟩,a⟩:=YA.call hm hA hB (JS hg) (Nat.le_of_ble_eq_true c1) (Nat.le_of_ble_eq_true c2) (Nat.eq_of_beq_eq_true c3)
            (List.all_eq_true.2 fun p hp=>decide_eq_true (Nat.le_of_ble_eq_true (List.all_eq_true.1 c4 p hp))) hy
           exact⟨v,Bz,hk,a⟩
      ·cases h
     ·cases h
   | fn lo g args kh k=>
     have h:Xf P (Cn P T f) lo T g args kh k=true:=h
     unfold Xf at h
     split at h
     ·cases h
     ·rename_i e he
      have F:=hT g e he
      unfold FnOk at F
      split at h
      ·rename_i X hX
       simp only[hX]at F
       cases hc:Nat.ble lo kh.next with
       |false=>rw[hc]at h;cases h
       | true=>
         rw[hc]at h
         exact F lo args kh k h (Nat.le_of_ble_eq_true hc)
      ·rename_i hX
       simp only[hX]at F
       cases hc:(Nat.beq args.length e.na&&Nat.ble lo kh.next)with
       |false=>rw[hc]at h;cases h
       | true=>
         rw[hc]at h
         simp only at h
         simp only[Bool.and_eq_true]at hc
         obtain⟨c1,c2⟩:=hc
         obtain⟨t0,h,e0⟩:=FT h
         have et:DR t0=FG args:=by
          funext m
          rw[e0]
          simp only[Nat.not_lt_zero,if_false,Nat.sub_zero,FG]
          cases args[m]? <;>rfl
         have hw:=ih (.code ..) h
         simp only[A7.Spec,et]at hw
         obtain⟨v,h',⟨Bz,hk,rfl⟩,a⟩:=F.call (h:=kh.abs) (lo:=lo) (R:=fun v h'=>∃Bz,k v Bz=true/\h'=Bz.abs) (Nat.eq_of_beq_eq_true c1) (Nat.le_of_ble_eq_true c2) (BW e.A (by
          rintro e ts' h' ⟨tk,hk,rfl,rfl,hh⟩
          unfold QA at hh
          cases e<;>first|(cases hh;done)|skip
          all_goals
           obtain⟨v,hv,hh⟩:=FL hh
           exact⟨by simp,v,hv,hk,hh,rfl⟩) _ _ hw)
         exact⟨v,Bz,hk,a⟩

noncomputable def CG (P:Program) (T:KT KFn) (f g:Nat):Bool:=Cn P T f (.fn 0 g [] ⟨0,.nil⟩ fun v _=>isTrue v)
theorem El {P:Program}{T:KT KFn}(hm:P.follows .mixedOrders=true) (hT:TabOk P T) {f g:Nat}(he:CG P T f g=true) {lo:Nat}{h:H}:AW P g lo h [] (fun v h'=>v= .bool true/\h'=h):=by
 obtain⟨v,Bz,hv,a⟩:=Cj hm hT f _ he
 have hv:=JU hv
 subst hv
 exact⟨_,h,⟨rfl,rfl⟩,AF.alone a (fun I=>⟨rfl,trivial⟩) (fun I=>⟨by simp[ren],by simp[In]⟩) lo h⟩
end AE.KerT

/- A region that draws its order, with places that all that stands ahead of them is done before, and all behind them after: between two of them any order, or a call that may come to many ends. -/
namespace AE
open Go Go.RowKit
set_option linter.unusedVariables false

def dummy (o:Oper):Oper:={o with op:=match o.dst with|some d=>.move (.tmp d)|none=>.move (.const (.bool true)),guard:=none}
def behind (ops:Array Oper) (b:Nat):Array Oper:=ops.mapIdx fun i o=>if i<b then dummy o else o
theorem UQ (ops:Array Oper) (b i:Nat):(behind ops b)[i]? =(ops[i]?).map fun o=>if i<b then dummy o else o:=by simp[behind]
theorem ZN {P:Program}{n:Nat}{O:Array Oper}{o:Oper}{x:Ao}(h:KW P n O (dummy o)=some x):x.guard=none/\x.dst=o.dst/\∃y,x.ins= .op (.mv y)/\∀d,o.dst=some d->y= .t d:=by
 obtain⟨dst,op,ty,pos,af,g⟩:=o
 cases dst with
 | none=>
   have h:(if NN (.op (.mv (.c (.bool true))))&&IZ n none then some (⟨none,none,.op (.mv (.c (.bool true)))⟩:Ao)else none)=some x:=h
   split at h
   ·simp only[Option.some.injEq]at h
    subst h
    exact⟨rfl,rfl,_,rfl,by simp⟩
   ·simp at h
 | some d=>
   have h:(if NN (.op (.mv (.t d)))&&IZ n (some d)then some (⟨some d,none,.op (.mv (.t d))⟩:Ao)else none)=some x:=h
   split at h
   ·simp only[Option.some.injEq]at h
    subst h
    exact⟨rfl,rfl,_,rfl,by simp⟩
   ·simp at h
def barrier (ops:Array Oper) (p:Nat):Bool:=
 let ms:=masks ops ops.size
 (List.range ops.size).all fun j=>decide (j<p)||(List.range p).all fun i=>ord ms i j
theorem KY {ops:Array Oper}{p:Nat}(h:barrier ops p=true):∀i j,i<p->p<=j->j<ops.size->ord (masks ops ops.size) i j=true:=by
 intro i j h1 h2 h3
 have:=List.all_eq_true.1 h j (by simpa using h3)
 simp only[Bool.or_eq_true,decide_eq_true_eq]at this
 rcases this with h|h
 ·omega
 ·exact List.all_eq_true.1 h i (by simpa using h1)

section
variable {P:Program}{ro:Option Nat}{n lo b c:Nat}{ops:Array Oper}

theorem RS (hlt:∀k e,e∈EI ops k->e<k) {L:Nat->Prop}(hL:Down ops L) {i j:Nat}(hj:j<ops.size) (hb:∀e∈EI ops j,L e) (ho:ord (masks ops ops.size) i j=true):L i:=by
 unfold ord at ho
 rw[FQ ops _ _ hj]at ho
 exact(HD hL hlt j hb i ho).1

theorem dz {base:Nat}{O:Array Oper}{xs:List Ao}{ap:List (AP × AP)}{S:Nat->Ts × H}{U:Nat->Option (Nat × A9)}(hlt:∀k e,e∈EI ops k->e<k) (hcs:c<=ops.size)
 (hbar:∀i j,i<c->c<=j->j<ops.size->ord (masks ops ops.size) i j=true) (hx:Cf P n O O.toList=some xs) (hsz1:O.size=c) (hsub:∀i,i<c->b<=i->O[i]? =ops[i]?)
 (hsub2:∀i,i<c->(O[i]?).map (fun o=>(o.dst,o.after))=(ops[i]?).map fun o=>(o.dst,o.after)) (D:Rk O xs ap) (T:Text P lo base xs S U) {I0:Al} {w0:World} {a0:Act}
 (hap:∀p∈ap,∀r∈Ap (ev (S xs.length).1 p.1),r∉Ap (ev (S xs.length).1 p.2)) {Q:Exit->Act->World->Prop} {fuel2:Nat}
 (hQ:∀J w1 a1,Inv n lo base O xs S U I0 w0 a0 (fun j=>j<xs.length) J w1 a1->∀arr:Array Bool,arr.size=ops.size->(∀j,listed arr j↔j<c)->wpAnyIn (WR ro) 0 P .any ops Q fuel2 arr a1 w1):
 ∀(fuel:Nat) (arr:Array Bool) (I:Al) (w:World) (a:Act),arr.size=ops.size->(∀j,listed arr j->j<c)->(∀j,j<b->j<c->listed arr j)->left c arr=fuel->Inv n lo base O xs S U I0 w0 a0 (listed arr) I w a->wpAnyIn (WR ro) 0 P .any ops Q (fuel+fuel2) arr a w:=by
 obtain⟨KJ,hget⟩:=BN hx
 have hlen:xs.length=c:=by rw[KJ,<-hsz1];simp
 have hbef:∀i,i<c->EI O i=EI ops i:=fun i hi=>by
  have h:=hsub2 i hi
  unfold EI
  cases h1:O[i]? <;>cases h2:ops[i]? <;>rw[h1,h2]at h<;>simp at h⊢
  rw[h.2]
 have hall:∀(arr:Array Bool),left c arr=0->∀j,j<c->listed arr j:=by
  intro arr hz j hj
  unfold left at hz
  rw[List.length_eq_zero_iff,List.filter_eq_nil_iff]at hz
  have:=hz j (by simpa using hj)
  unfold listed
  simpa using this
 intro fuel
 induction fuel with
 | zero=>
   intro arr I w a hsz hl1 hl2 hl V
   rw[Nat.zero_add]
   have hL:listed arr=fun j=>j<xs.length:=by
    funext j
    exact propext ⟨fun h=>by have:=hl1 j h;omega,fun h=>hall arr hl j Af⟩
   rw[hL]at V
   exact hQ I w a V arr hsz fun j=>⟨hl1 j,fun h=>hall arr hl j h⟩
 | succ fuel ih=>
   intro arr I w a hsz hl1 hl2 hl V
   rw[show fuel+1+fuel2=fuel+fuel2+1 by omega]
   have Md:Down ops (listed arr):=fun i hi e he=>by
    have h1:=hl1 i hi
    exact V.down i hi e (by rw[hbef i h1];exact he)
   have hex:∃j,j<c/\¬listed arr j:=by
    by_cases h:∃j,j<c/\¬listed arr j
    ·exact h
    ·exfalso
     have:left c arr=0:=by
      unfold left
      rw[List.length_eq_zero_iff,List.filter_eq_nil_iff]
      intro j hj
      rcases HF arr j with k|k
      ·unfold listed at k;simp only[k];simp
      ·exact absurd ⟨j,by simpa using hj,k⟩ h
     omega
   have hmin:∀j,j<c->¬listed arr j->∃j',j'<c/\j'∈Region.ready .any ops arr:=by
    intro j
    induction j using Nat.strongRecOn with
    | _ j qp=>
      intro hj hn
      by_cases hb:∀e∈EI ops j,listed arr e
      ·exact⟨j,hj,(Dx hsz).2 ⟨by omega,hn,hb⟩⟩
      ·have hb:∃e,e∈EI ops j/\¬listed arr e:=by
        refine Classical.byContradiction fun h=>hb fun e he=>?_
        rcases HF arr e with k|k
        ·exact k
        ·exact absurd ⟨e,he,k⟩ h
       obtain⟨e,he,hne⟩:=hb
       have gK:=hlt j e he
       exact qp e gK Af hne
   refine⟨fun hr=>?_,fun j hj=>?_⟩
   ·obtain⟨j,hj,hn⟩:=hex
    obtain⟨j', -,h⟩:=hmin j hj hn
    rw[hr]at h;simp at h
   ·obtain⟨hj1,hj2,hj3⟩:=(Dx hsz).1 hj
    have hjc:j<c:=by
     rcases Nat.lt_or_ge j c with h|h
     ·exact h
     ·exfalso
      obtain⟨i,hi,hn⟩:=hex
      exact hn (RS hlt Md hj1 hj3 (hbar i j hi h hj1))
    have hjb:b<=j:=by
     rcases Nat.lt_or_ge j b with h|h
     ·exact absurd (hl2 j h hjc) hj2
     ·exact h
    obtain⟨y,hy, -⟩:=hget j O.toList[j] (List.getElem?_eq_getElem (by simp;omega))
    have R:Tq O xs (listed arr) j y:=⟨hy,hj2,fun e he=>hj3 e (by rw[<-hbef j hjc];exact he)⟩
    have h1:=take_one (ro:=ro) hx D T hap V R (K:=wpAnyIn (WR ro) 0 P .any ops Q (fuel+fuel2) (arr.setIfInBounds j true)) (Q:=Q) (fun J w1 a1 V'=>by
     refine ih _ J w1 a1 (by simpa using hsz) (fun k hk=>?_) (fun k hk hkc=>?_) ?_ ?_
     ·rw[D3 Af]at hk
      rcases hk with hk|rfl
      ·exact hl1 k hk
      ·exact hjc
     ·rw[D3 Af]
      exact .inl (hl2 k hk hkc)
     ·have:=Sk (m:=c) (arr:=arr) hjc Af (by simpa[listed]using hj2)
      omega
     ·rw[D3 Af]
      exact V')
    unfold wpOpIn at h1⊢
    rw[hsub j hjc hjb]at h1
    obtain⟨o,ho⟩:∃o,ops[j]? =some o:=⟨ops[j],Array.getElem?_eq_getElem Af⟩
    rw[ho]at h1⊢
    have hw:Region.wanted o (yielded O a.tmps)=Region.wanted o (yielded ops a.tmps):=by
     unfold Region.wanted
     cases hg:o.guard with
     |none=>rfl
     | some p=>
       obtain⟨i,b'⟩:=p
       have ho1:O[j]? =some o:=by rw[hsub j hjc hjb,ho]
       obtain⟨x',hx',hxo⟩:=hget j o (by rw[Array.getElem?_toList];exact ho1)
       simp only[KW,LM,hg,Option.bind_eq_some_iff,Option.map_eq_some_iff]at hxo
       obtain⟨g,⟨d,⟨oi,hoi,hd⟩, -⟩, -⟩:=hxo
       have hi:i<c:=by have:=(Array.getElem?_eq_some_iff.1 hoi).1;omega
       have h:=hsub2 i hi
       have hd2:(O[i]?).bind (·.dst)=(ops[i]?).bind (·.dst):=by
        cases e1:O[i]? <;>cases e2:ops[i]? <;>rw[e1,e2]at h<;>simp at h⊢
        exact h.1
       simp only[yielded,hd2]
    simp only[hw]at h1
    exact h1

theorem ct {m:Nat}{arr:Array Bool}(hb:b<=m) (h:∀j,listed arr j↔j<b):left m arr=m - b:=by
 have key:∀m,left m arr=m - b:=by
  intro m
  induction m with
  |zero=>simp[left]
  | succ m ih=>
    have hl:left (m+1) arr=left m arr+if arr.getD m false then 0 else 1:=by
     unfold left
     rw[List.range_succ,List.filter_append,List.length_append]
     congr 1
     simp only[List.filter_cons,List.filter_nil]
     cases arr.getD m false<;>rfl
    rw[hl,ih]
    by_cases hm:m<b
    ·have:=(h m).2 hm
     unfold listed at this
     rw[this]
     simp;omega
    ·have:arr.getD m false=false:=by
      have:=fun k=>hm ((h m).1 k)
      unfold listed at this
      simpa using this
     rw[this]
     simp;omega
 exact key m

theorem U9 {xs:List Ao}{ap:List (AP × AP)}(hlt:∀k e,e∈EI ops k->e<k) (hbc:b<=c) (hcs:c<=ops.size) (hbar:∀i j,i<c->c<=j->j<ops.size->ord (masks ops ops.size) i j=true)
 (hx:Cf P n ((behind ops b).extract 0 c) ((behind ops b).extract 0 c).toList=some xs) (hd:ZQ ((behind ops b).extract 0 c) xs ap=true) {K:Ts->H->Prop} {ts:Ts} {h:H} (hlo:lo<=h.next)
 (hr:Run P lo true h.next 0 xs (fun FC h1=>Apart ap FC/\K FC h1) ts (h.bump xs.length)) {I:Al} {w:World} {a:Act} {arr:Array Bool} (k:Rel I h w) (t:Bv I n ts a.tmps) (hsz:arr.size=ops.size)
 (hl:∀j,listed arr j↔j<b) {Q:Exit->Act->World->Prop} {fuel2:Nat}
 (hQ:∀FC h1 J w1 a1,K FC h1->Quiet lo h h1->BR I J lo h.next h1 w w1->Bv J n FC a1.tmps->a1.defers=a.defers->∀arr:Array Bool,arr.size=ops.size->(∀j,listed arr j↔j<c)->wpAnyIn (WR ro) 0 P .any ops Q fuel2 arr a1 w1):
 wpAnyIn (WR ro) 0 P .any ops Q (c - b+fuel2) arr a w:=by
 have hO:∀i,i<c->((behind ops b).extract 0 c)[i]? =(ops[i]?).map fun o=>if i<b then dummy o else o:=fun i hi=>by
  rw[Array.getElem?_extract,<-UQ]
  simp[behind]
  omega
 have rV:((behind ops b).extract 0 c).size=c:=by simp[behind];omega
 generalize wj:(behind ops b).extract 0 c=O at*
 have hlen:xs.length=c:=by rw[(BN hx).1,<-rV];simp
 have D:=KR hd
 obtain⟨S,U,h0,hstep,hap,hK⟩:=GY xs 0 ts _ (fun x hx=>by obtain⟨i,hi,e⟩:=List.getElem_of_mem hx;exact D.Ec i x (by rw[List.getElem?_eq_getElem hi,e])) hr
 have FA:∀i x,xs[i]? =some x->Fx P lo h.next i x (S i) (U i) (S (i+1)):=fun i x hi=>by simpa using hstep i x hi
 have hroom:h.next+xs.length<=(S 0).2.next:=by rw[h0];exact Nat.le_refl _
 have hquiet:=quiet_of FA hroom hlo xs.length (Nat.le_refl _)
 rw[h0]at hquiet
 have hq0:Quiet lo h (S xs.length).2:=⟨Nat.le_trans (Nat.le_add_right _ _) hquiet.next,hquiet.same,fun hc=>hquiet.clean fun r hr=>hc r (Nat.le_trans (Nat.le_add_right _ _) hr)⟩
 have T:Text P lo h.next xs S U:=⟨FA,hroom,by rw[h0];intro r hr;exact k.clean r (Nat.le_trans (Nat.le_add_right _ _) hr),by rw[h0];intro j _;exact k.clean _ (Nat.le_add_right _ _),hlo⟩
 have lA:∀j,j<b->S (j+1)=S j/\U j=none:=by
  intro j hj
  obtain⟨o,ho⟩:∃o,ops[j]? =some o:=⟨ops[j],Array.getElem?_eq_getElem Af⟩
  have uS:O[j]? =some (dummy o):=by rw[hO j Af,ho];simp[hj]
  obtain⟨x,hxj,hxo⟩:=(BN hx).2 j (dummy o) (by rw[Array.getElem?_toList];exact uS)
  have hs:=FA j x hxj
  have hx3:=ZN hxo
  obtain⟨hx1,hx2,y,hx4,hx5⟩:=hx3
  generalize S j=s at hs
  generalize S (j+1)=s' at hs
  generalize U j=u at hs
  cases hs with
  |skip ts h hg=>rw[hx1]at hg;simp[BF]at hg
  | op ts h ao v u hg hi hu1 hu2=>
    rw[hx4]at hi
    simp only[LX.op.injEq]at hi
    subst hi
    have e1:=hu2 ⟨fun _=>none,0⟩ (fun r hr=>by simp[Bn.touch]at hr)
    simp only[BZ,Option.some.injEq,Prod.mk.injEq]at e1
    have hun:u=none:=by
     cases u with
     |none=>rfl
     | some p=>
       exfalso
       have:=congrArg (fun g=>H.get g p.1) e1.2
       simp[H.upd,H.put]at this
    refine⟨?_,hun⟩
    rw[hun,<-e1.1,hx2]
    simp only[H.upd,Prod.mk.injEq,and_true]
    cases hod:o.dst with
    |none=>rfl
    | some d=>
      rw[hx5 d hod]
      funext m
      simp only[EY,GL,ev]
      split
      ·rename_i hm;rw[hm]
      ·rfl
  |call ts h f args v h' hg hi hc=>rw[hx4]at hi;simp at hi
 have hS:∀j,j<=b->S j=S 0:=by
  intro j
  induction j with
  |zero=>intro _;rfl
  |succ j ih=>intro hj;rw[(lA j Af).1];exact ih Af
 have cE:∀W:Nat->Prop,S (ver (fun j=>listed arr j/\W j) xs.length)=S 0:=by
  intro W
  rcases GU (fun j=>listed arr j/\W j) xs.length with⟨h1, -⟩|⟨j,h1,h2,h3, -⟩
  ·rw[h1]
  ·rw[h2]
   exact hS _ (by have:=(hl j).1 h3.1;omega)
 have gO:FN xs S (listed arr)=ts:=by
  funext t
  unfold FN
  rw[cE,h0]
 have ZA:∀r,(DO xs S U (listed arr)).get r=h.get r:=by
  intro r
  simp only[DO]
  rw[cE,h0]
  rfl
 have hsub2:∀i,i<c->(O[i]?).map (fun o=>(o.dst,o.after))=(ops[i]?).map fun o=>(o.dst,o.after):=fun i hi=>by
  rw[hO i hi]
  cases ops[i]? with
  |none=>rfl
  | some o=>
    simp only[Option.map_some]
    split<;>rfl
 rw[show c - b=left c arr from(ct hbc hl).symm]
 refine dz (base:=h.next) (I0:=I) (w0:=w) (a0:=a) hlt hcs hbar hx rV (fun i hi hb=>?_) hsub2 D T hap (fun J w1 a1 V arr' hsz' hl'=>?_) (left c arr) arr I w a hsz (fun j hj=>by have:=(hl j).1 hj;omega) (fun j hj _=>(hl j).2 hj) rfl ?_
 ·have hib:¬i<b:=by omega
  rw[hO i hi]
  simp[hib]
 ·refine hQ _ _ J w1 a1 hK hq0 ⟨⟨V.grows.le,V.grows.new⟩,V.dom,V.old,?_,⟨V.ext.os,V.ext.tape,V.ext.output,V.ext.size,V.ext.block⟩⟩ ?_ V.defers arr' hsz' hl'
  ·refine⟨fun r row hr d=>V.rel.rows r row ?_ d,V.rel.lt,V.rel.size,V.rel.base,V.rel.tabs,V.rel.inj,?_⟩
   ·rw[<-hr]
    exact FV (F:=fun k=>(S k).2.get r) (W:=fun j=>Wr xs S U j r) (T.heap (r:=r)) (Nat.le_refl _) (fun j hj _=>by simp[hj])
   ·exact T.clean' (Nat.le_refl _)
  ·have:FN xs S (fun j=>j<xs.length)=(S xs.length).1:=by
    funext t
    exact FV (F:=fun k=>(S k).1 t) (W:=fun j=>Wt xs j t) (T.tmp (t:=t)) (Nat.le_refl _) (fun j hj _=>by simp[hj])
   rw[<-this]
   exact V.ts
 ·refine⟨fun j hj=>by have:=(hl j).1 hj;omega,fun j hj e he=>(hl e).2 (by have h1:=(hl j).1 hj;have:=D.lt j e he Af;omega),by rw[gO];exact t,⟨fun r row hr d=>k.rows r row (by rw[<-ZA];exact hr) d,fun r d=>?_,k.size,k.base,k.tabs,k.inj,fun r hr=>?_⟩,fun j hj d=>?_,fun j y hy hc _ r d=>?_,fun j r row hj hu=>?_,BA.refl _ _,fun r d=>.inl d,fun _ _ _ _ e=>e,Ext.refl _ _ _,rfl⟩
  ·have h1:=k.lt r d
   have h2:=hquiet.next
   simp only[DO,H.bump]at h2⊢
   omega
  ·rw[ZA]
   have h2:=hquiet.next
   simp only[DO,H.bump]at hr h2
   exact k.clean r Af
  ·have:=k.lt _ d
   omega
  ·have h1:=k.lt r d
   have h2:=T.room' (k:=j) (Nat.le_of_lt (List.getElem?_eq_some_iff.1 hy).1)
   omega
  ·rw[(lA j ((hl j).1 hj)).2]at hu
   cases hu

theorem ZZ {x:Ao}(hlt:∀k e,e∈EI ops k->e<k) (hcs:c<ops.size) (hbar:∀i j,i<c->c<=j->j<ops.size->ord (masks ops ops.size) i j=true) (lC:∀i j,i<c+1->c+1<=j->j<ops.size->ord (masks ops ops.size) i j=true)
 {xs:List Ao} (hx:Cf P n ops ops.toList=some xs) (hxc:xs[c]? =some x) {f:AP} {args:List AP} (hi:x.ins= .call f args) {K:Ts->H->Prop} {ts:Ts} {h:H} (hlo:lo<=h.next)
 (hr:RunD P lo h.next 0 [x] K ts (h.bump 1)) {I:Al} {w:World} {a:Act} {arr:Array Bool} (k:Rel I h w) (t:Bv I n ts a.tmps) (hsz:arr.size=ops.size)
 (hl:∀j,listed arr j↔j<c) {Q:Exit->Act->World->Prop} {fuel2:Nat}
 (hQ:∀FC h1 J w1 a1,K FC h1->Quiet lo h h1->BR I J lo h.next h1 w w1->Bv J n FC a1.tmps->a1.defers=a.defers->∀arr:Array Bool,arr.size=ops.size->(∀j,listed arr j↔j<c+1)->wpAnyIn (WR ro) 0 P .any ops Q fuel2 arr a1 w1):
 wpAnyIn (WR ro) 0 P .any ops Q (fuel2+1) arr a w:=by
 have Md:Down ops (listed arr):=fun i hi e he=>by
  have h1:=(hl i).1 hi
  have:=hlt i e he
  exact(hl e).2 Af
 have hc:c∈Region.ready .any ops arr:=(Dx hsz).2 ⟨hcs,fun h=>by have:=(hl c).1 h;omega,fun e he=>(hl e).2 (hlt c e he)⟩
 refine⟨fun hr=>by rw[hr]at hc;simp at hc,fun j hj=>?_⟩
 obtain⟨hj1,hj2,hj3⟩:=(Dx hsz).1 hj
 have hji:j=c:=by
  rcases Nat.lt_trichotomy j c with h|h|h
  ·exact absurd ((hl j).2 h) hj2
  ·exact h
  ·exfalso
   have:=RS hlt Md hj1 hj3 (lC c j Af Af hj1)
   have:=(hl c).1 this
   omega
 subst hji
 have hnext:∀FC h1 J w1 a1,K FC h1->Quiet lo h h1->BR I J lo h.next h1 w w1->Bv J n FC a1.tmps->a1.defers=a.defers->wpAnyIn (WR ro) 0 P .any ops Q fuel2 (arr.setIfInBounds j true) a1 w1:=fun FC h1 J w1 a1 hK hq hw t' hd=>
  hQ FC h1 J w1 a1 hK hq hw t' hd _ (by simpa using hsz) fun i=>by
   rw[D3 Af]
   simp only[L1,hl i]
   omega
 obtain⟨o,ho⟩:∃o,ops[j]? =some o:=⟨ops[j],Array.getElem?_eq_getElem hj1⟩
 obtain⟨x',hx',hxo⟩:=(BN hx).2 j o (by rw[Array.getElem?_toList];exact ho)
 rw[hxc]at hx';simp at hx';subst hx'
 simp only[KW,Option.bind_eq_some_iff]at hxo
 obtain⟨gd,hgd,ins,hins,hxo⟩:=hxo
 split at hxo
 ·rename_i hok
  simp only[Bool.and_eq_true]at hok
  simp only[Option.some.injEq]at hxo
  subst hxo
  simp only at hi
  subst hi
  simp only[RunD]at hr
  have kb:=k.bump 1
  have hq1:Quiet lo h (h.bump 1):=⟨Nat.le_add_right _ _,fun _ _=>rfl,fun hc r hr=>hc r (Nat.le_trans (Nat.le_add_right _ _) hr)⟩
  unfold wpOpIn
  simp only[ho,EC t hgd]
  split at hr
  ·rename_i hw
   simp only[hw,if_true]
   obtain⟨c',ho',hcf,hcas⟩:=Jp hins
   obtain⟨ef,iF⟩:=hcf I ts _ t.ev
   obtain⟨Mi,Mt⟩:=Ho t.ev hcas
   refine hr.run o c' ro a I w _ Q ho' ef Mi kb iF Mt fun v h1 J w1 hr hq AV hin=>?_
   refine hnext _ h1 J w1 _ hr (hq1.trans hq) ⟨AV.grows,fun r d=>(AV.dom r d).imp id (fun e=>by simp only[H.bump]at e;omega),AV.old,AV.rel,AV.ext⟩ ((t.le AV.grows.le).put hin hok.2) (Act.Cd a o.dst (ren J v))
  ·rename_i hw
   have hw':BF ts gd=false:=by simpa using hw
   simp only[hw',Bool.false_eq_true,if_false]
   refine⟨fun _ _=>trivial,?_⟩
   have hu:=(BV I)
   have tp:=t.put (v:=undef) hu.2 hok.2
   rw[hu.1]at tp
   exact hnext _ _ I w _ hr hq1 (BR.refl kb) tp (Act.Cd a o.dst undef)
 ·simp at hxo
end

section
variable {P:Program}{ro:Option Nat}{n lo base c:Nat}{ops F4:Array Oper}{xs1:List Ao}{ap:List (AP × AP)}{S:Nat->Ts × H}{U:Nat->Option (Nat × A9)}
theorem Hy {K:Ts->H->Prop}{b k:Nat}:∀(xs:List Ao) (i:Nat) (ts:Ts) (h:H),RunD P lo (b+k) i xs K ts h->RunD P lo b (k+i) xs K ts h
 |[],_,_,_,hr=>hr
 | x::xs,i,ts,h,hr=>by
   simp only[RunD]at hr⊢
   rw[show b+(k+i)=b+k+i by omega,show k+i+1=k+(i+1) by omega]
   split
   ·rename_i hw
    rw[if_pos hw]at hr
    cases hi:x.ins with
    | op ao=>
      rw[hi]at hr
      obtain⟨v,h',ha,hr⟩:=hr
      exact⟨v,h',ha,Hy xs (i+1) _ _ hr⟩
    | call f args=>
      rw[hi]at hr
      exact hr.mono (Nat.le_refl _) fun v h' hr=>Hy xs (i+1) _ _ hr
   ·rename_i hw
    rw[if_neg hw]at hr
    exact Hy xs (i+1) _ _ hr

theorem WD.cV {tp:Bool}{id:Nat}{xs:List Ao}{Q:Exit->Ts->H->Prop}{ts:Ts}{h:H}(hm:P.follows .mixedOrders=true) (C:Cut ops c) (hx:Cf P n ops ops.toList=some xs) (hsz1:F4.size=c) (hsub:∀i,i<c->F4[i]? =ops[i]?) (hx1:Cf P n F4 F4.toList=some xs1)
 (hd:ZQ F4 xs1 ap=true) (hlo:lo<=h.next) (hr:Run P lo true h.next 0 xs1 (fun FC h1=>Apart ap FC/\RunD P lo h1.next 0 (xs.drop c) (Q .normal) FC (h1.bump (xs.drop c).length)) ts (h.bump xs1.length)):WD (TC tp P (.region id ops true)) n lo Q ts h:=by
 have hlen1:xs1.length=c:=by rw[(BN hx1).1,<-hsz1];simp
 have hlen:xs.length=ops.size:=by rw[(BN hx).1];simp
 have hcs:=C.inn
 have D:=KR hd
 obtain⟨S,U,h0,hstep,hap,hrest⟩:=GY xs1 0 ts _ (fun x hx=>by obtain⟨i,hi,e⟩:=List.getElem_of_mem hx;exact D.Ec i x (by rw[List.getElem?_eq_getElem hi,e])) hr
 have FA:∀i x,xs1[i]? =some x->Fx P lo h.next i x (S i) (U i) (S (i+1)):=fun i x hi=>by simpa using hstep i x hi
 have hroom:h.next+xs1.length<=(S 0).2.next:=by rw[h0];exact Nat.le_refl _
 have hquiet:=quiet_of FA hroom hlo xs1.length (Nat.le_refl _)
 rw[h0]at hquiet
 have hq0:Quiet lo h (S xs1.length).2:=⟨Nat.le_trans (Nat.le_add_right _ _) hquiet.next,hquiet.same,fun hc=>hquiet.clean fun r hr=>hc r (Nat.le_trans (Nat.le_add_right _ _) hr)⟩
 have hnx:h.next+c<=(S xs1.length).2.next:=by have:=hquiet.next;simp only[H.bump]at this;omega
 -- the end
 obtain⟨b,hb⟩:∃b,b+c=(S xs1.length).2.next:=⟨(S xs1.length).2.next - c,by omega⟩
 rw[<-hb]at hrest
 have hrest':=Hy (b:=b) (k:=c) _ 0 _ _ hrest
 rw[Nat.add_zero]at hrest'
 have hdl:(xs.drop c).length=xs.length - c:=by simp
 intro ro I w a k t _
 refine wpIn_region_any hm ?_
 have T:Text P lo h.next xs1 S U:=⟨FA,hroom,by rw[h0];intro r hr;exact k.clean r (Nat.le_trans (Nat.le_add_right _ _) hr),by rw[h0];intro j _;exact k.clean _ (Nat.le_add_right _ _),hlo⟩
 have hno:∀j,¬listed (Array.replicate ops.size false) j:=by
  intro j hj
  unfold listed at hj
  rw[Array.getD_eq_getD_getElem?,Array.getElem?_replicate]at hj
  split at hj<;>simp at hj
 have gO:FN xs1 S (listed (Array.replicate ops.size false))=ts:=by
  funext t
  unfold FN
  rw[GV _ (fun j hj=>hno j hj.1),h0]
 have ZA:∀r,(DO xs1 S U (listed (Array.replicate ops.size false))).get r=h.get r:=by
  intro r
  simp only[DO]
  rw[GV _ (fun j hj=>hno j hj.1),h0]
  rfl
 have kd:=k.drew
 have hfuel:ops.size=c+(ops.size - c):=by omega
 have hleft:left c (Array.replicate ops.size false)=c:=by
  unfold left
  rw[List.filter_eq_self.2]
  ·simp
  ·intro j _
   have:=hno j
   unfold listed at this
   simpa using this
 have main:=VZ (ro:=ro) C hx1 hsz1 hsub D T (I0:=I) (w0:=w.drew) (a0:=a) hap (fuel2:=ops.size - c) (Q:=fun e' a' w'=>∃ts' h' J,Q e' ts' h'/\Quiet lo h h'/\BR I J lo h.next h' w w'/\Bv J n ts' a'.tmps/\∃ms,a'.defers=ms++a.defers/\Marks J w w' ms) (fun J w1 a1 V arr hsz hl=>?_) c (Array.replicate ops.size false) I w.drew a (by simp) (fun j hj=>absurd hj (hno j)) hleft ?_
 ·rw[hfuel]
  rw[hfuel]at main
  simpa using main
 ·refine Oe C (ops.size - c) c arr a1 w1 (Nat.le_refl _) Af hsz hl ?_
  have hrel:Rel J (S xs1.length).2 w1:=by
   refine⟨fun r row hr d=>V.rel.rows r row ?_ d,V.rel.lt,V.rel.size,V.rel.base,V.rel.tabs,V.rel.inj,T.clean' (Nat.le_refl _)⟩
   rw[<-hr]
   exact FV (F:=fun k=>(S k).2.get r) (W:=fun j=>Wr xs1 S U j r) (T.heap (r:=r)) (Nat.le_refl _) (fun j hj _=>by simp[hj])
  have hts:Bv J n (S xs1.length).1 a1.tmps:=by
   have:FN xs1 S (fun j=>j<xs1.length)=(S xs1.length).1:=by
    funext t
    exact FV (F:=fun k=>(S k).1 t) (W:=fun j=>Wt xs1 j t) (T.tmp (t:=t)) (Nat.le_refl _) (fun j hj _=>by simp[hj])
   rw[<-this]
   exact V.ts
  have W1:BR I J lo h.next (S xs1.length).2 w w1:=⟨⟨V.grows.le,V.grows.new⟩,V.dom,V.old,hrel,⟨V.ext.os,V.ext.tape,V.ext.output,V.ext.size,V.ext.block⟩⟩
  have:=Ip hx Af (xs.length - c) c Af _ _ (by simp only[H.bump];omega) hrest' ro J w1 a1 (hrel.bump _) hts (fun j h1 h2 d=>by have:=hrel.lt _ d;omega) (fun e' a' w'=>∃ts' h' J,Q e' ts' h'/\Quiet lo h h'/\BR I J lo h.next h' w w'/\Bv J n ts' a'.tmps/\∃ms,a'.defers=ms++a.defers/\Marks J w w' ms)
   (fun ts' h' J' w' a' hK hq hw t' hd=>⟨ts',h',J',hK,hq0.trans ⟨Nat.le_trans (Nat.le_add_right _ _) hq.next,hq.same,fun hc=>hq.clean fun r hr=>hc r (Nat.le_trans (Nat.le_add_right _ _) hr)⟩,W1.trans hw Af,t',[],by rw[hd,V.defers];rfl,Marks.nil _ _ _⟩)
  rw[hlen]at this;exact this
 ·refine⟨fun j hj=>absurd hj (hno j),fun j hj=>absurd hj (hno j),by rw[gO];exact t,⟨fun r row hr d=>kd.rows r row (by rw[<-ZA];exact hr) d,fun r d=>?_,kd.size,kd.base,kd.tabs,kd.inj,fun r hr=>?_⟩,fun j hj d=>?_,fun j y hy hc _ r d=>?_,fun j r row hj=>absurd hj (hno j),BA.refl _ _,fun r d=>.inl d,fun _ _ _ _ e=>e,Ext.refl _ _ _,rfl⟩
  ·have h1:=k.lt r d
   have h2:=hquiet.next
   simp only[DO,H.bump]at h2⊢
   omega
  ·rw[ZA]
   have h2:=hquiet.next
   simp only[DO,H.bump]at hr h2
   exact k.clean r Af
  ·have:=k.lt _ d
   omega
  ·have h1:=k.lt r d
   have h2:=T.room' (k:=j) (Nat.le_of_lt (List.getElem?_eq_some_iff.1 hy).1)
   omega

end
end AE

/- Code in which a call may come to many ends. -/
namespace AE
open Go Go.RowKit
set_option linter.unusedVariables false


theorem WD.here {tp:Bool}{P:Program}{n lo:Nat}{Q:Exit->Ts->H->Prop}{ts:Ts}{h:H}{C:Code}{e:Exit}(hC:∀ro (Q:Exit->Act->World->Prop) a w,Q e a w->C.wpIn (WR ro) 0 P Q a w) (q:Q e ts h):WD (TC tp P C) n lo Q ts h:=
 (WT.here (Q:=Q) hC q).wd (A8 tp P C)
theorem WD.scope {tp:Bool}{P:Program}{n lo:Nat}{Q:Exit->Ts->H->Prop}{ts:Ts}{h:H}{c:Code}(a:WD (TC tp P c) n lo (ng Q) ts h):WD (TC tp P (.scope c)) n lo Q ts h:=by
 intro ro I w b k t htp
 refine MZ (Go.wpIn_mono (a ro I w b k t htp) ?_)
 rintro e' a' w' ⟨ts',h',J,⟨hg,q⟩,r⟩
 exact⟨hg,ts',h',J,q,r⟩

def HU (P:Program) (lo:Nat):Aj->(Exit->Ts->H->Prop)->Ts->H->Prop
 |.skip,Q=>Q .normal
 |.ret,Q=>Q .ret
 |.exit id,Q=>Q (.exit id)
 |.seq a b,Q=>HU P lo a (Da (HU P lo b Q) Q)
 |.cond c a b,Q=>fun ts h=>∃t,ev ts c= .bool t/\if t=true then HU P lo a Q ts h else HU P lo b Q ts h
 |.block id c,Q=>HU P lo c (C9 id Q)
 |.loop c,Q=>fun ts h=>∃k,iter (fun K=>HU P lo c (Da K Q)) k ts h
 |.reg ops,Q=>fun ts h=>RunD P lo h.next 0 ops (Q .normal) ts (h.bump ops.length)
 |.Ck ops ap,Q=>fun ts h=>Run P lo true h.next 0 ops (fun ts' h'=>Apart ap ts'/\Q .normal ts' h') ts (h.bump ops.length)
 |.range f ps n CB body _ _,Q=>fun ts h=>∃g first BL,ev ts f= .func (.func g) ⟨first⟩ ⟨BL⟩/\Jv P g lo (h.enter (FD n ts ps CB body)) (first++[.func (.yield h.next) ⟨[]⟩ ⟨[]⟩]++BL) fun v h'=>
  ∃L,h'.get h.next=some (.loop L)/\L.state≠ .busy/\Q (F0 L.pend) ts (h'.put h.next .gone)
 |.next x a b,Q=>nextQ lo x a b (Q .normal)

theorem di {P:Program}{n lo id:Nat}{tp:Bool}{ops:Array Oper}{A:Aj}{Q:Exit->Ts->H->Prop}{ts:Ts}{h:H}(hm:P.follows .mixedOrders=true) (hc:S6 P n ops=some A) (hl:lo<=h.next) (hw:HU P lo A Q ts h):WD (TC tp P (.region id ops true)) n lo (ng Q) ts h:=by
 simp only[S6,Option.bind_eq_some_iff]at hc
 obtain⟨xs,hxs,c,hfc,hc⟩:=hc
 split at hc
 ·rename_i hcut
  simp only[Option.bind_eq_some_iff]at hc
  obtain⟨xs1,Xj,hc⟩:=hc
  split at hc
  ·rename_i hd
   simp only[Option.some.injEq]at hc
   subst hc
   have C:=N9 hcut
   have hcs:=C.inn
   refine(WD.cV hm C hxs (by simp;omega) (fun i hi=>?_) Xj hd hl (Q:=fun e ts h=>e= .normal/\Q .normal ts h) ?_).mono (A8 tp P _) ?_
   ·rw[Array.getElem?_extract]
    rw[if_pos Af]
    simp
   ·simp only[HU,Da]at hw
    simpa using hw
   ·rintro e ts' h' ⟨rfl,q⟩
    exact⟨by simp,q⟩
  ·simp at hc
 ·simp at hc


def Ao.uD (nd:List Nat) (x:Ao):Bool:=match x.ins with
 |.call (.t _) _=>true
 |.call (.c (.func (.func g) _ _)) _=>nd.any (Nat.beq g)
 |_=>false
def de (P:Program) (n:Nat) (ops:Array Oper) (b c:Nat):Option Aj:=
 (Cf P n ((behind ops b).extract 0 c) ((behind ops b).extract 0 c).toList).bind fun xs=>
  if ZQ ((behind ops b).extract 0 c) xs (Td ((behind ops b).extract 0 c) xs)then some (.Ck xs (Td ((behind ops b).extract 0 c) xs))else none
def KV (P:Program) (n:Nat) (ops:Array Oper) (xs:List Ao):Nat->List Nat->Option Aj
 |b,[]=>if b<=ops.size then de P n ops b ops.size else none
 | b,c::cs=>if barrier ops c&&barrier ops (c+1)&&decide (b<=c)&&decide (c<ops.size)then
  (de P n ops b c).bind fun A=>(xs[c]?).bind fun x=>if x.OG then(KV P n ops xs (c+1) cs).map fun B=>.seq A (.seq (.reg [x]) B)else none
   else none
def p6 (ops:Array Oper):Bool:=(List.range ops.size).all fun i=>(EI ops i).all (· <i)
def Z7 (P:Program) (nd:List Nat) (n:Nat) (ops:Array Oper):Option Aj:=
 (Cf P n ops ops.toList).bind fun xs=>
  let cs:=(List.range xs.length).filter fun i=>match xs[i]? with|some x=>x.uD nd|none=>false
  if cs.isEmpty||!p6 ops then none else KV P n ops xs 0 cs

def Cg (P:Program) (nd:List Nat) (n:Nat):Bool->Code->Option Aj
 |_,.skip=>some .skip
 |_,.label _=>some .skip
 |_,.ret=>some .ret
 |_,.exit id=>some (.exit id)
 |tp,.seq a b=>(Cg P nd n tp a).bind fun x=>(Cg P nd n tp b).map (.seq x)
 |tp,.cond c a b=>(AJ c).bind fun c'=>(Cg P nd n tp a).bind fun x=>(Cg P nd n tp b).map (.cond c' x)
 |tp,.block id c=>(Cg P nd n tp c).map (.block id)
 |tp,.loop c=>(Cg P nd n tp c).map .loop
 |tp,.scope c=>Cg P nd n tp c
 | tp,.region id ops draw=>match(if draw then Z7 P nd n ops else none)with
   |some A=>some A
   |none=>AZ P n tp (.region id ops draw)
 |tp,.rangeFunc f ps CB body=>if tp=true/\ps.toList.all (fun p=>decide (p<n))=true then(AJ f).map fun f'=>.range f' ps.toList n CB body .skip .skip else none
 |_,_=>some ek

section
variable {P:Program}{n lo:Nat}
theorem RE {ops:Array Oper}{b c:Nat}{A:Aj}(h:de P n ops b c=some A):∃xs ap,Cf P n ((behind ops b).extract 0 c) ((behind ops b).extract 0 c).toList=some xs/\ZQ ((behind ops b).extract 0 c) xs ap=true/\A= .Ck xs ap:=by
 simp only[de,Option.bind_eq_some_iff]at h
 obtain⟨xs,hx,h⟩:=h
 split at h
 ·rename_i hd
  simp only[Option.some.injEq]at h
  exact⟨xs,_,hx,hd,h.symm⟩
 ·simp at h

theorem O5 {ops:Array Oper}{xs:List Ao}(hlt:∀k e,e∈EI ops k->e<k) (hx:Cf P n ops ops.toList=some xs) {Q:Exit->Ts->H->Prop}{ro:Option Nat}:∀(cs:List Nat) (b:Nat) (A:Aj),KV P n ops xs b cs=some A->(∀i j,i<b->b<=j->j<ops.size->ord (masks ops ops.size) i j=true)->
 ∀(ts:Ts) (h:H),lo<=h.next->HU P lo A Q ts h->∀(I:Al) (w:World) (a:Act) (arr:Array Bool),Rel I h w->Bv I n ts a.tmps->arr.size=ops.size->(∀j,listed arr j↔j<b)->∀(Q':Exit->Act->World->Prop),
  (∀ts' h' J w' a',Q .normal ts' h'->Quiet lo h h'->BR I J lo h.next h' w w'->Bv J n ts' a'.tmps->a'.defers=a.defers->Q' .normal a' w')->wpAnyIn (WR ro) 0 P .any ops Q' (ops.size - b) arr a w
 | [], b,A,hc,hb,ts,h,hl,hw,I,w,a,arr,k,t,hsz,qB,Q',hQ=>by
   simp only[KV]at hc
   split at hc
   ·rename_i hbs
    obtain⟨xs1,ap,hx1,hd1,rfl⟩:=RE hc
    have:=U9 (ro:=ro) (K:=fun ts h=>Q .normal ts h) (fuel2:=0) (Q:=Q') hlt hbs (Nat.le_refl _) (fun i j _ h1 h2=>by omega) hx1 hd1 hl hw k t hsz qB (fun FC h1 J w1 a1 hK hq AV t1 hd arr' hsz' hl'=>?_)
    ·simpa using this
    ·refine⟨?_,hQ FC h1 J w1 a1 hK hq AV t1 hd⟩
     cases hr:Region.ready .any ops arr' with
     |nil=>rfl
     | cons j js=>
       exfalso
       have:=(Dx hsz').1 (show j∈Region.ready .any ops arr' by rw[hr];simp)
       exact this.2.1 ((hl' j).2 this.1)
   ·simp at hc
 | c :: cs,b,A,hc,hb,ts,h,hl,hw,I,w,a,arr,k,t,hsz,qB,Q',hQ=>by
   simp only[KV]at hc
   split at hc
   ·rename_i hcond
    simp only[Bool.and_eq_true,decide_eq_true_eq]at hcond
    obtain⟨⟨⟨hb1,hb2⟩,hbc⟩,hcs⟩:=hcond
    have hb1:=KY hb1
    have hb2:=KY hb2
    simp only[Option.bind_eq_some_iff]at hc
    obtain⟨A1,hA1,x,hxc,hc⟩:=hc
    split at hc
    ·rename_i Up
     simp only[Option.map_eq_some_iff]at hc
     obtain⟨B,hB,rfl⟩:=hc
     obtain⟨xs1,ap,hx1,hd1,rfl⟩:=RE hA1
     obtain⟨f,args,hi⟩:∃f args,x.ins= .call f args:=by
      unfold Ao.OG at Up
      split at Up
      ·rename_i f args hi;exact⟨f,args,hi⟩
      ·simp at Up
     have:=U9 (ro:=ro) (K:=fun ts h=>RunD P lo h.next 0 [x] (fun ts h=>HU P lo B Q ts h) ts (h.bump 1)) (fuel2:=ops.size - c) (Q:=Q') hlt hbc Af hb1 hx1 hd1 hl hw k t hsz qB (fun FC h1 J w1 a1 hK hq AV t1 hd arr' hsz' hl'=>?_)
     ·rw[show ops.size - b=c - b+(ops.size - c) by omega]
      exact this
     ·have:=ZZ (ro:=ro) (K:=fun ts h=>HU P lo B Q ts h) (fuel2:=ops.size - (c+1)) (Q:=Q') hlt hcs hb1 hb2 hx hxc hi (Nat.le_trans hl hq.next) hK AV.rel t1 hsz' hl' (fun Wm h2 J2 w2 a2 hK2 hq2 Zt t2 hd2 rB hsz2 hl2=>?_)
      ·rw[show ops.size - c=ops.size - (c+1)+1 by omega]
       exact this
      ·exact O5 hlt hx cs (c+1) B hB hb2 Wm h2 (Nat.le_trans hl (Nat.le_trans hq.next hq2.next)) hK2 J2 w2 a2 rB Zt.rel t2 hsz2 hl2 Q' fun ts' h' J' w' a' q hq' hw' t' hd'=>
        hQ ts' h' J' w' a' q ((hq.trans hq2).trans hq') ((AV.trans Zt hq.next).trans hw' (Nat.le_trans hq.next hq2.next)) t' (hd'.trans (hd2.trans hd))
    ·simp at hc
   ·simp at hc

theorem jb {tp:Bool}{id:Nat}{nd:List Nat}{ops:Array Oper}{A:Aj}{Q:Exit->Ts->H->Prop}{ts:Ts}{h:H}(hm:P.follows .mixedOrders=true) (hc:Z7 P nd n ops=some A) (hl:lo<=h.next) (hw:HU P lo A Q ts h):WD (TC tp P (.region id ops true)) n lo (ng Q) ts h:=by
 simp only[Z7,Option.bind_eq_some_iff]at hc
 obtain⟨xs,hx,hc⟩:=hc
 split at hc
 ·simp at hc
 ·rename_i hcond
  simp only[Bool.or_eq_true,Bool.not_eq_true',not_or,Bool.not_eq_false]at hcond
  have hlt:∀k e,e∈EI ops k->e<k:=fun k e he=>by
   have hk:k<ops.size:=by
    unfold EI at he
    split at he
    ·rename_i o ho;exact(Array.getElem?_eq_some_iff.1 ho).1
    ·simp at he
   have:=List.all_eq_true.1 hcond.2 k (by simpa using hk)
   simpa using List.all_eq_true.1 this e he
  intro ro I w a k t _
  refine wpIn_region_any hm ?_
  have hno:∀j,¬listed (Array.replicate ops.size false) j:=by
   intro j hj
   unfold listed at hj
   rw[Array.getD_eq_getD_getElem?,Array.getElem?_replicate]at hj
   split at hj<;>simp at hj
  have:=O5 (ro:=ro) hlt hx _ 0 A hc (fun i j h _ _=>by omega) ts h hl hw I w.drew a (Array.replicate ops.size false) k.drew t (by simp) (fun j=>⟨fun hj=>absurd hj (hno j),fun hj=>by omega⟩)
   (fun e' a' w'=>∃ts' h' J,ng Q e' ts' h'/\Quiet lo h h'/\BR I J lo h.next h' w w'/\Bv J n ts' a'.tmps/\∃ms,a'.defers=ms++a.defers/\Marks J w w' ms)
   (fun ts' h' J w' a' q hq AV t' hd=>⟨ts',h',J,⟨by simp,q⟩,hq,⟨⟨AV.grows.le,AV.grows.new⟩,AV.dom,AV.old,AV.rel,⟨AV.ext.os,AV.ext.tape,AV.ext.output,AV.ext.size,AV.ext.block⟩⟩,t',[],hd,Marks.nil _ _ _⟩)
  simpa using this
end

section
variable {P:Program}{n lo:Nat}
theorem X6 (hm:P.follows .mixedOrders=true):∀(C:Code) (tp:Bool) (A:Aj) (Q:Exit->Ts->H->Prop) (ts:Ts) (h:H),AZ P n tp C=some A->lo<=h.next->HU P lo A Q ts h->WD (TC tp P C) n lo (ng Q) ts h:=by
 intro C
 induction C with
 |skip=>intro tp A Q ts h hc hl hw;simp[AZ]at hc;subst hc;exact(WT.skip (Q:=ng Q) ⟨by simp,hw⟩).wd (A8 tp P _)
 |label l=>intro tp A Q ts h hc hl hw;simp[AZ]at hc;subst hc;exact(WT.label (Q:=ng Q) ⟨by simp,hw⟩).wd (A8 tp P _)
 |ret=>intro tp A Q ts h hc hl hw;simp[AZ]at hc;subst hc;exact(WT.ret (Q:=ng Q) ⟨by simp,hw⟩).wd (A8 tp P _)
 |exit id=>intro tp A Q ts h hc hl hw;simp[AZ]at hc;subst hc;exact(WT.exit (Q:=ng Q) ⟨by simp,hw⟩).wd (A8 tp P _)
 | scope c ih=>
   intro tp A Q ts h hc hl hw
   refine WD.scope ((ih tp A Q ts h (JP hc).1 hl hw).mono (A8 tp P c) ?_)
   rintro e ts' h' ⟨hg,q⟩
   exact⟨hg,hg,q⟩
 | seq x y NQ ihy=>
   intro tp A Q ts h hc hl hw
   simp only[AZ,Option.bind_eq_some_iff,Option.map_eq_some_iff]at hc
   obtain⟨a,ha,b,hb,rfl⟩:=hc
   refine WD.seq (((NQ tp a _ ts h ha hl hw).strong (A8 tp P x)).mono (A8 tp P x) ?_)
   rintro e ts' h' ⟨⟨hg,q⟩,hq⟩
   cases e<;>first|exact⟨hg,q⟩|exact ihy tp b Q ts' h' hb (Nat.le_trans hl hq.next) q
 | cond c x y NQ ihy=>
   intro tp A Q ts h hc hl hw
   simp only[AZ,Option.bind_eq_some_iff,Option.map_eq_some_iff]at hc
   obtain⟨c',hc',a,ha,b,hb,rfl⟩:=hc
   obtain⟨t,ht,hw⟩:=hw
   refine WD.cond hc' ht ?_
   cases t
   ·exact ihy tp b Q ts h hb hl (by simpa using hw)
   ·exact NQ tp a Q ts h ha hl (by simpa using hw)
 | block id c ih=>
   intro tp A Q ts h hc hl hw
   simp only[AZ,Option.map_eq_some_iff]at hc
   obtain⟨a,ha,rfl⟩:=hc
   refine WD.block ((ih tp a _ ts h ha hl hw).mono (A8 tp P c) ?_)
   rintro e ts' h' ⟨hg,q⟩
   cases e<;>first|exact⟨hg,q⟩|skip
   rename_i id'
   simp only[C9]at q⊢
   split
   ·rename_i hid;rw[if_pos hid]at q;exact⟨by simp,q⟩
   ·rename_i hid;rw[if_neg hid]at q;exact⟨by simp,q⟩
 | loop c ih=>
   intro tp A Q ts h hc hl hw
   simp only[AZ,Option.map_eq_some_iff]at hc
   obtain⟨a,ha,rfl⟩:=hc
   obtain⟨k,hw⟩:=hw
   refine WD.loop ?_
   induction k generalizing ts h with
   |zero=>exact hw.elim
   | succ k ihk=>
     refine WD.round (((ih tp a _ ts h ha hl hw).strong (A8 tp P c)).mono (A8 tp P c) ?_)
     rintro e ts' h' ⟨⟨hg,q⟩,hq⟩
     cases e<;>first|exact⟨hg,q⟩|exact ihk ts' h' (Nat.le_trans hl hq.next) q
 | region id ops draw=>
   intro tp A Q ts h hc hl hw
   rcases Iw hc with⟨rfl,hc2⟩|hc2
   ·exact di hm hc2 hl hw
   rcases hc2 with hc2|⟨hdr,hc2⟩
   ·simp only[Z1,Option.bind_eq_some_iff]at hc2
    obtain⟨xs,hxs,hc2⟩:=hc2
    cases draw
    ·simp at hc2;subst hc2
     simp only[HU]at hw
     refine(WD.reg hxs hl (Q:=fun e ts h=>e= .normal/\Q .normal ts h) (by simpa using hw)).mono (A8 tp P _) ?_
     rintro e ts' h' ⟨rfl,q⟩
     exact⟨by simp,q⟩
    ·simp only[if_true]at hc2
     split at hc2
     ·rename_i hdd
      simp at hc2;subst hc2
      refine((WT.Ck hm hxs hdd hl (Q:=fun e ts h=>e= .normal/\Q .normal ts h) (by simp only[HU]at hw;simpa using hw)).wd (A8 tp P _)).mono (A8 tp P _) ?_
      rintro e ts' h' ⟨rfl,q⟩
      exact⟨by simp,q⟩
     ·simp at hc2
   ·obtain⟨o1,o2,x,x',a,b,ho,h1,d1,g1,h2,d2,g2,ha,hb,hx,rfl⟩:=J3 hc2
    subst hdr
    exact WD.next (Q:=ng Q) ho h1 d1 g1 h2 d2 g2 ha hb hx (by
     obtain⟨r,m,since,seen,c0,es,clock,e1,e2,e3,e4,e5,e6,e7,e8,e9⟩:=hw
     exact⟨r,m,since,seen,c0,es,clock,e1,e2,e3,e4,e5,e6,e7,fun k=>⟨by simp,e8 k⟩,fun e he hs=>⟨by simp,e9 e he hs⟩⟩)
 | rangeFunc f ps x y NQ ihy=>
   intro tp A Q ts h hc hl hw
   simp only[AZ]at hc
   split at hc
   ·rename_i htp
    obtain⟨rfl, -⟩:=htp
    simp only[Option.bind_eq_some_iff,Option.map_eq_some_iff]at hc
    obtain⟨f',hf,a,ha,b,hb,rfl⟩:=hc
    obtain⟨g,first,BL,hv,lF⟩:=hw
    obtain⟨ps⟩:=ps
    refine WD.range hf hv hl (lF.mono (Nat.le_refl _) ?_)
    rintro v h' ⟨L,hL,hs,q⟩
    exact⟨L,hL,hs,by cases L.pend<;>simp[F0],q⟩
   ·simp at hc
 |_=>intro tp A Q ts h hc hl hw;simp[AZ]at hc;subst hc;obtain⟨t,ht, -⟩:=hw;simp[ev]at ht
theorem eU (hm:P.follows .mixedOrders=true) (C:Code) (tp:Bool) (A:Aj) (Q:Exit->Ts->H->Prop) (ts:Ts) (h:H) (hc:AZ P n tp C=some A) (hl:lo<=h.next) (hw:HU P lo A Q ts h):WD (TC tp P C) n lo Q ts h:=
 (X6 hm C tp A Q ts h hc hl hw).mono (A8 tp P C) fun _ _ _ q=>q.2
theorem aV {nd:List Nat}(hm:P.follows .mixedOrders=true):∀(C:Code) (tp:Bool) (A:Aj) (Q:Exit->Ts->H->Prop) (ts:Ts) (h:H),Cg P nd n tp C=some A->lo<=h.next->HU P lo A Q ts h->WD (TC tp P C) n lo (ng Q) ts h:=by
 intro C
 induction C with
 |skip=>intro tp A Q ts h hc hl hw;simp[Cg]at hc;subst hc;exact(WT.skip (Q:=ng Q) ⟨by simp,hw⟩).wd (A8 tp P _)
 |label l=>intro tp A Q ts h hc hl hw;simp[Cg]at hc;subst hc;exact(WT.label (Q:=ng Q) ⟨by simp,hw⟩).wd (A8 tp P _)
 |ret=>intro tp A Q ts h hc hl hw;simp[Cg]at hc;subst hc;exact(WT.ret (Q:=ng Q) ⟨by simp,hw⟩).wd (A8 tp P _)
 |exit id=>intro tp A Q ts h hc hl hw;simp[Cg]at hc;subst hc;exact(WT.exit (Q:=ng Q) ⟨by simp,hw⟩).wd (A8 tp P _)
 | scope c ih=>
   intro tp A Q ts h hc hl hw
   refine WD.scope ((ih tp A Q ts h (by simpa only[Cg]using hc) hl hw).mono (A8 tp P c) ?_)
   rintro e ts' h' ⟨hg,q⟩
   exact⟨hg,hg,q⟩
 | seq x y NQ ihy=>
   intro tp A Q ts h hc hl hw
   simp only[Cg,Option.bind_eq_some_iff,Option.map_eq_some_iff]at hc
   obtain⟨a,ha,b,hb,rfl⟩:=hc
   refine WD.seq (((NQ tp a _ ts h ha hl hw).strong (A8 tp P x)).mono (A8 tp P x) ?_)
   rintro e ts' h' ⟨⟨hg,q⟩,hq⟩
   cases e<;>first|exact⟨hg,q⟩|exact ihy tp b Q ts' h' hb (Nat.le_trans hl hq.next) q
 | cond c x y NQ ihy=>
   intro tp A Q ts h hc hl hw
   simp only[Cg,Option.bind_eq_some_iff,Option.map_eq_some_iff]at hc
   obtain⟨c',hc',a,ha,b,hb,rfl⟩:=hc
   obtain⟨t,ht,hw⟩:=hw
   refine WD.cond hc' ht ?_
   cases t
   ·exact ihy tp b Q ts h hb hl (by simpa using hw)
   ·exact NQ tp a Q ts h ha hl (by simpa using hw)
 | block id c ih=>
   intro tp A Q ts h hc hl hw
   simp only[Cg,Option.map_eq_some_iff]at hc
   obtain⟨a,ha,rfl⟩:=hc
   refine WD.block ((ih tp a _ ts h ha hl hw).mono (A8 tp P c) ?_)
   rintro e ts' h' ⟨hg,q⟩
   cases e<;>first|exact⟨hg,q⟩|skip
   rename_i id'
   simp only[C9]at q⊢
   split
   ·rename_i hid;rw[if_pos hid]at q;exact⟨by simp,q⟩
   ·rename_i hid;rw[if_neg hid]at q;exact⟨by simp,q⟩
 | loop c ih=>
   intro tp A Q ts h hc hl hw
   simp only[Cg,Option.map_eq_some_iff]at hc
   obtain⟨a,ha,rfl⟩:=hc
   obtain⟨k,hw⟩:=hw
   refine WD.loop ?_
   induction k generalizing ts h with
   |zero=>exact hw.elim
   | succ k ihk=>
     refine WD.round (((ih tp a _ ts h ha hl hw).strong (A8 tp P c)).mono (A8 tp P c) ?_)
     rintro e ts' h' ⟨⟨hg,q⟩,hq⟩
     cases e<;>first|exact⟨hg,q⟩|exact ihk ts' h' (Nat.le_trans hl hq.next) q
 | region id ops draw=>
   intro tp A Q ts h hc hl hw
   simp only[Cg]at hc
   split at hc
   ·rename_i A' he
    simp only[Option.some.injEq]at hc
    subst hc
    split at he
    ·rename_i hdr
     subst hdr
     exact jb hm he hl hw
    ·simp at he
   ·exact X6 hm _ tp A Q ts h hc hl hw
 | rangeFunc f ps x y NQ ihy=>
   intro tp A Q ts h hc hl hw
   simp only[Cg]at hc
   split at hc
   ·rename_i htp
    obtain⟨rfl, -⟩:=htp
    simp only[Option.map_eq_some_iff]at hc
    obtain⟨f',hf,rfl⟩:=hc
    obtain⟨g,first,BL,hv,lF⟩:=hw
    obtain⟨ps⟩:=ps
    refine WD.range hf hv hl (lF.mono (Nat.le_refl _) ?_)
    rintro v h' ⟨L,hL,hs,q⟩
    exact⟨L,hL,hs,by cases L.pend<;>simp[F0],q⟩
   ·simp at hc
 |_=>intro tp A Q ts h hc hl hw;simp[Cg]at hc;subst hc;obtain⟨t,ht, -⟩:=hw;simp[ev]at ht
theorem PV {nd:List Nat}(hm:P.follows .mixedOrders=true) (C:Code) (tp:Bool) (A:Aj) (Q:Exit->Ts->H->Prop) (ts:Ts) (h:H) (hc:Cg P nd n tp C=some A) (hl:lo<=h.next) (hw:HU P lo A Q ts h):WD (TC tp P C) n lo Q ts h:=
 (aV hm C tp A Q ts h hc hl hw).mono (A8 tp P C) fun _ _ _ q=>q.2
end

def nB (P:Program) (lo r:Nat) (A B:Aj) (L:DN) (args:List Value) (h:H) (R:Value->H->Prop):Prop:=
 HU P lo A (fun e FC h1=>e= .normal/\∃L1,h1.get r=some (.loop L1)/\L1.state= .ready/\
  HU P lo B (fun e _ h2=>∃p L2,roundEnd e=some p/\h2.get r=some (.loop L2)/\R (.bool (Ku p)) (h2.put r (.loop (ended L2 p)))) FC (h1.put r (.loop (busy L1)))) (Gr L.params args L.tmps) h
theorem nB.call {P:Program}{nd:List Nat}{lo:Nat}(hm:P.follows .mixedOrders=true) {r:Nat}{A B:Aj}{L:DN}{args:List Value}{h:H}{R:Value->H->Prop}(hA:Cg P nd L.size false L.CB=some A) (hB:Cg P nd L.size false L.body=some B) (hg:h.get r=some (.loop L))
 (hlo:lo<=r) (hr:r<h.next) (hlen:args.length=L.params.length) (hps:L.params.all (fun p=>decide (p<L.size))=true) (hw:nB P lo r A B L args h R):HS P (.func (.yield r) ⟨[]⟩ ⟨[]⟩) lo h args R:=by
 refine Rp hg hlo hr hlen (fun p hp=>by simpa using List.all_eq_true.1 hps p hp) ?_
 refine((PV hm _ false A _ _ _ hA Af hw).strong (A8 false P _)).mono (A8 false P _) ?_
 rintro e FC h1 ⟨⟨rfl,L1,hg1,hs1,hw1⟩,hq1⟩
 refine⟨rfl,L1,hg1,hs1,PV hm _ false B _ _ _ hB ?_ hw1⟩
 have:=hq1.next
 show lo<=h1.next
 omega

theorem Ml {P:Program}{f:FuncId}{fn:Func}{c:Code}{n nargs lo:Nat}{rs:List ResultVar}{h:H}{args:List Value}{R:Value->H->Prop}(hf:P.funcs[f]? =some fn) (hb:fn.body=some c) (hn:fn.ntmps=n) (hna:nargs<=n) (hrs:fn.results=⟨rs⟩) (hname:(fn.name== "runtime.NumGoroutine")=false)
 (ha:args.length=nargs) (hw:WD (TC true P c) n lo (fun e ts h'=>(e= .normal\/e= .ret)/\∃v,E1 P h' ts rs=some v/\R v h') (FG args) h):Jv P f lo h args R:=by
 refine⟨fun as_ w=>?_,fun I w k ia=>?_⟩
 ·have hne:¬fn.name= "runtime.NumGoroutine" :=by simpa using hname
  simp[callFunc,hf,hne,hb,program,Sem.run]
 ·refine callsIn_wide.1 (callsIn_of_wp_marks (F:=Fence.wide) (n:=0) hf hb trivial ?_)
  have ht:Bv I n (FG args) ((⟨Ah I args⟩:Array Value)++Array.replicate (fn.ntmps - (⟨Ah I args⟩:Array Value).size) undef):=by
   refine⟨by simp;omega,fun i=>?_⟩
   rw[Array.getD_eq_getD_getElem?,Array.getElem?_append]
   by_cases hi:i<args.length
   ·simp only[List.size_toArray,Bp,hi,if_true,List.getElem?_toArray,BO,FG,List.getElem?_eq_getElem hi,Option.map_some,Option.getD_some]
    exact⟨trivial,Eb ia (List.getElem?_eq_getElem hi)⟩
   ·simp only[List.size_toArray,Bp,hi,if_false,FG,List.getElem?_eq_none (Nat.le_of_not_lt hi),Option.getD_none]
    refine⟨?_,(BV I).2⟩
    rw[(BV I).1,Array.getElem?_replicate]
    split<;>rfl
  have:=hw none I w ⟨_,[]⟩ k ht (fun _=>rfl)
  refine Go.wpIn_mono this ?_
  rintro e' a' w' ⟨ts',h',J,⟨he,v,hv,hR⟩,hq,AV,t',ms,hd,hms⟩
  simp only[List.append_nil]at hd
  have hleave:LeavesInM Fence.wide 0 P fn a'.tmps (fun e w'=>∃v h' J,R v h'/\Quiet lo h h'/\BR I J lo h.next h' w w'/\In J v/\e= .returned (ren J v)) ms .returning w':=by
   refine EF (I:=I) (J:=J) (h':=h') (lo:=lo) (fun w2 k2 e2=>?_) ms w' AV.rel AV.ext hms
   obtain⟨iv,hrun⟩:=Fq (P:=P) hrs t' k2 hv
   exact⟨_,hrun,v,h',J,hR,hq,⟨AV.grows,AV.dom,AV.old,k2,e2⟩,iv,rfl⟩
  rcases he with rfl|rfl
  ·simp only[bodyPostM,hd];exact hleave
  ·simp only[bodyPostM,hd];exact hleave
theorem Tl.VU {P:Program}{n:Nat}{f:FuncId}{nargs:Nat}{A:Aj}{rs:List ResultVar}(F:Tl P f n nargs A rs) {lo:Nat}{h:H}{args:List Value}{R:Value->H->Prop}(ha:args.length=nargs) (hlo:lo<=h.next)
 (hw:HU P lo A (fun e ts h'=>(e= .normal\/e= .ret)/\∃v,E1 P h' ts rs=some v/\R v h') (FG args) h):Jv P f lo h args R:=by
 obtain⟨fn,c,hf,hb,hn,hna,hrs,hcc,hname⟩:=F.ex
 exact Ml hf hb hn hna hrs hname ha (eU F.mixed c true A _ _ _ hcc hlo hw)
theorem Eu.toD {P:Program}{n:Nat}{f:FuncId}{nargs:Nat}{A:Aj}{rs:List ResultVar}(F:Eu P f n nargs A rs):Tl P f n nargs A rs:=by
 obtain⟨fn,c,hf,hb,hn,hna,hrs,hcc,hname⟩:=F.ex
 exact⟨F.mixed,fn,c,hf,hb,hn,hna,hrs,(Gf hcc).1,hname⟩

structure U0 (P:Program) (f:FuncId) (n nargs:Nat) (A:Aj) (rs:List ResultVar):Prop where
 mixed:P.follows .mixedOrders=true
 ex:∃nd fn c,P.funcs[f]? =some fn/\fn.body=some c/\fn.ntmps=n/\nargs<=n/\fn.results=⟨rs⟩/\Cg P nd n true c=some A/\(fn.name== "runtime.NumGoroutine")=false
theorem U0.VU {P:Program}{n:Nat}{f:FuncId}{nargs:Nat}{A:Aj}{rs:List ResultVar}(F:U0 P f n nargs A rs) {lo:Nat}{h:H}{args:List Value}{R:Value->H->Prop}(ha:args.length=nargs) (hlo:lo<=h.next)
 (hw:HU P lo A (fun e ts h'=>(e= .normal\/e= .ret)/\∃v,E1 P h' ts rs=some v/\R v h') (FG args) h):Jv P f lo h args R:=by
 obtain⟨nd,fn,c,hf,hb,hn,hna,hrs,hcc,hname⟩:=F.ex
 exact Ml hf hb hn hna hrs hname ha (PV F.mixed c true A _ _ _ hcc hlo hw)
end AE
