/- Walks and plain laws: AEKerT, AEMid. -/
import Derived.Test.YtneenfjffejnoaaGreatAEKer
import Derived.Test.YtneenfjffejnoaaGreatAEtwo
import Derived.Test.YtneenfjffejnoaaGreatAEthree
set_option linter.unusedVariables false
set_option linter.unusedSimpArgs false
set_option linter.unusedSectionVars false

/- An evaluator for the kernel, with the functions' compiled code given in a table: closed calls by evaluation. -/
set_option linter.unusedVariables false
namespace AE.KerT
open Go AE

structure KFn where
 n:Nat
 na:Nat
 A:Ay
 rs:List ResultVar
 hook:Option (List Value->KH->(Value->KH->Bool)->Bool):=none
def HookOk (P:Program) (g:Nat) (F:List Value->KH->(Value->KH->Bool)->Bool):Prop:=
 ∀lo args kh k,F args kh k=true->lo<=kh.next->∃v Ct,k v Ct=true/\AF P g lo kh.abs args v Ct.abs
def FnOk (P:Program) (g:Nat) (e:KFn):Prop:=match e.hook with
 |none=>Cf P g e.n e.na e.A e.rs
 |some F=>HookOk P g F
def TabOk (P:Program) (T:KT KFn):Prop:=∀g e,T.get g=some e->FnOk P g e
def AllT (P:Program) (f:Nat->Nat):KT KFn->Prop
 |.nil=>True
 |.node l v r=>(∀e,v=some e->FnOk P (f 0) e)/\AllT P (fun m=>f (2*m+1)) l/\AllT P (fun m=>f (2*m+2)) r
theorem TD {P:Program}:∀{T:KT KFn} {f:Nat->Nat},AllT P f T->∀g e,T.get g=some e->FnOk P (f g) e
 |.nil,f,_,g,e,h=>by rw[KT.get_nil]at h;exact nomatch h
 | .node l v r,f,⟨h0,hl,hr⟩,g,e,h=>by
   rw[KT.GQ]at h
   by_cases g0:g=0
   ·subst g0;rw[if_pos rfl]at h;exact h0 e h
   ·rw[if_neg g0]at h
    by_cases g1:g%2=1
    ·rw[if_pos g1]at h
     have:=TD hl _ e h
     rw[show 2* (g / 2)+1=g by omega]at this
     exact this
    ·rw[if_neg g1]at h
     have:=TD hr _ e h
     rw[show 2* (g / 2 - 1)+2=g by omega]at this
     exact this
theorem allT_ok {P:Program}{T:KT KFn}(h:AllT P (fun m=>m) T):TabOk P T:=fun g e he=>TD h g e he

inductive B5 where
 |code (lo:Nat) (A:Ay) (k:Exit->EZ->KH->Bool) (ts:EZ) (kh:KH)
 |loop (lo:Nat) (A:Ay) (k:Exit->EZ->KH->Bool) (ts:EZ) (kh:KH)
 |ops (lo:Nat) (q:Bool) (base i:Nat) (ops:List A7) (k:EZ->KH->Bool) (ts:EZ) (kh:KH)
 |call (lo:Nat) (fv:Value) (args:List Value) (kh:KH) (k:Value->KH->Bool)
 |fn (lo g:Nat) (args:List Value) (kh:KH) (k:Value->KH->Bool)

section
variable (P:Program) (ih:B5->Bool) (lo:Nat) (k:Exit->EZ->KH->Bool) (ts:EZ) (kh:KH)
noncomputable def nJ (a b:Ay):Bool:=ih (.code lo a (fun e ts kh=>match e with|.normal=>ih (.code lo b k ts kh)|e=>k e ts kh) ts kh)
noncomputable def Kk (c:BH) (a b:Ay):Bool:=Li ts c fun v=>match v with
 |.bool t=>Bool.rec (motive:=fun _=>Bool) (ih (.code lo b k ts kh)) (ih (.code lo a k ts kh)) t
 |_=>false
noncomputable def SV (id:Nat) (c:Ay):Bool:=ih (.code lo c (fun e ts kh=>match e with|.exit id'=>Bool.rec (motive:=fun _=>Bool) (k (.exit id') ts kh) (k .normal ts kh) (Nat.beq id' id)|e=>k e ts kh) ts kh)
noncomputable def PG (ops:List A7):Bool:=K8 kh ops.length fun Ct=>ih (.ops lo false kh.next 0 ops (fun ts kh=>k .normal ts kh) ts Ct)
noncomputable def Kj (ops:List A7) (ap:List (BH × BH)):Bool:=K8 kh ops.length fun Ct=>ih (.ops lo true kh.next 0 ops (fun ts kh=>Bool.rec (motive:=fun _=>Bool) false (k .normal ts kh) (Mf ap (Fw ts))) ts Ct)
noncomputable def Hv (f:BH) (ps:List Nat) (n:Nat) (Ed body:Code):Bool:=Li ts f fun v=>match v with
 | .func (.func g) ⟨first⟩ ⟨CL⟩=>KT.Fb (.loop .ready .none n ts ps Ed body) 64 kh.rows kh.next fun rows=>K8 ⟨kh.next,rows⟩ 1 fun U0=>
  ih (.fn lo g (first++[.func (.yield kh.next) ⟨[]⟩ ⟨[]⟩]++CL) U0 fun _ Wu=>match Wu.rows.get kh.next with
   |some (.loop .busy _ _ _ _ _ _)=>false
   |some (.loop _ pd _ _ _ _ _)=>KT.Fb (.row .gone) 64 Wu.rows kh.next fun rows=>k (FU pd) ts ⟨Wu.next,rows⟩
   |_=>false)
 |_=>false
noncomputable def OG (A:Ay):Bool:=match A with
 |.skip=>k .normal ts kh
 |.ret=>k .ret ts kh
 |.exit id=>k (.exit id) ts kh
 |.seq a b=>nJ ih lo k ts kh a b
 |.cond c a b=>Kk ih lo k ts kh c a b
 |.block id c=>SV ih lo k ts kh id c
 |.loop c=>ih (.loop lo c k ts kh)
 |.reg ops=>PG ih lo k ts kh ops
 |.BN ops ap=>Kj ih lo k ts kh ops ap
 |.range f ps n Ed body _ _=>Hv ih lo k ts kh f ps n Ed body
 |.next _ _ _=>false
end
section
variable (P:Program) (ih:B5->Bool) (lo:Nat)
noncomputable def Ws (q:Bool) (base i:Nat) (o:A7) (rest:List A7) (k:EZ->KH->Bool) (ts:EZ) (kh:KH):Bool:=match o.ins with
 |.op ao=>kop P lo (base+i) ts kh (fun v Ct=>T9 v o.dst ts fun ts'=>ih (.ops lo q base (i+1) rest k ts' Ct)) ao
 |.call f args=>nq ts args fun args=>Li ts f fun f=>ih (.call (Bool.rec (motive:=fun _=>Nat) lo kh.next q) f args kh fun v Ct=>T9 v o.dst ts fun ts'=>ih (.ops lo q base (i+1) rest k ts' Ct))
noncomputable def PF (q:Bool) (base i:Nat) (ops:List A7) (k:EZ->KH->Bool) (ts:EZ) (kh:KH):Bool:=match ops with
 |[]=>k ts kh
 |o::rest=>Bool.rec (motive:=fun _=>Bool) (T9 undef o.dst ts fun ts'=>ih (.ops lo q base (i+1) rest k ts' kh)) (Ws P ih lo q base i o rest k ts kh) (CN (Fw ts) o.guard)
end
section
variable (P:Program) (ih:B5->Bool) (lo:Nat)
noncomputable def Wv (r:Nat) (k:Value->KH->Bool) (e:Exit) (kh:KH):Bool:=match roundEnd e with
 |none=>false
 | some p=>match kh.rows.get r with
   |some (.loop _ _ size tmps ps Ed body)=>Ih kh r (.loop (Ov p) p size tmps ps Ed body) fun kh=>k (.bool (M8 p)) kh
   |_=>false
noncomputable def KQ (r:Nat) (B:Ay) (k:Value->KH->Bool) (e:Exit) (ts:EZ) (kh:KH):Bool:=match e with
 | .normal=>(match kh.rows.get r with
   |some (.loop .ready pd size tmps ps Ed body)=>Ih kh r (.loop .busy pd size tmps ps Ed body) fun kh=>ih (.code lo B (fun e _ kh=>Wv r k e kh) ts kh)
   |_=>false)
 |_=>false
noncomputable def KO (r:Nat) (args:List Value) (kh:KH) (k:Value->KH->Bool):Bool:=match kh.rows.get r with
 | some (.loop _ _ size tmps ps Ed body)=>Bool.rec (motive:=fun _=>Bool) false (match ET P size false Ed with
   |none=>false
   | some A=>match ET P size false body with
     |none=>false
     |some B=>SL (fun Js=>ih (.code lo A (KQ ih lo r B k) Js kh)) ps args tmps) (Nat.ble lo r&&Nat.ble (r+1) kh.next&&Nat.beq args.length ps.length&&ps.all (fun p=>Nat.ble (p+1) size))
 |_=>false
noncomputable def Kh (fv:Value) (args:List Value) (kh:KH) (k:Value->KH->Bool):Bool:=match fv with
 |.func (.func g) ⟨first⟩ ⟨CL⟩=>spine (first++args++CL) fun args=>ih (.fn lo g args kh k)
 |.func (.yield r) ⟨[]⟩ ⟨[]⟩=>KO P ih lo r args kh k
 |_=>false
noncomputable def Wq (k:Value->KH->Bool) (rs:List ResultVar) (e:Exit) (ts:EZ) (kh:KH):Bool:=match e with
 |.normal=>jk kh k (Hg P kh.abs (Fw ts) rs)
 |.ret=>jk kh k (Hg P kh.abs (Fw ts) rs)
 |_=>false
noncomputable def jm (T:KT KFn) (g:Nat) (args:List Value) (kh:KH) (k:Value->KH->Bool):Bool:=match T.get g with
 |none=>false
 | some e=>match e.hook with
   |some F=>Bool.rec (motive:=fun _=>Bool) false (F args kh k) (Nat.ble lo kh.next)
   | none=>Bool.rec (motive:=fun _=>Bool) false (UZ (fun Js=>ih (.code lo e.A (Wq P k e.rs) Js kh)) args 0 .nil)
     (Nat.beq args.length e.na&&Nat.ble lo kh.next)
end
noncomputable def Nc (P:Program) (T:KT KFn) (ih:B5->Bool) (t:B5):Bool:=match t with
 |.code lo A k ts kh=>OG ih lo k ts kh A
 |.loop lo c k ts kh=>ih (.code lo c (fun e ts kh=>match e with|.normal=>ih (.loop lo c k ts kh)|e=>k e ts kh) ts kh)
 |.ops lo q base i ops k ts kh=>PF P ih lo q base i ops k ts kh
 |.call lo fv args kh k=>Kh P ih lo fv args kh k
 |.fn lo g args kh k=>jm P ih lo T g args kh k

noncomputable def DF (P:Program) (T:KT KFn) (f:Nat):B5->Bool:=Nat.rec (motive:=fun _=>B5->Bool) (fun _=>false) (fun _ ih=>Nc P T ih) f


def QK (k:Exit->EZ->KH->Bool):Exit->Ts->H->Prop:=fun e ts h=>∃tk hk,ts=Fw tk/\h=hk.abs/\k e tk hk=true
def QT (k:EZ->KH->Bool):Ts->H->Prop:=fun ts h=>∃tk hk,ts=Fw tk/\h=hk.abs/\k tk hk=true
def B5.Spec (P:Program) (f:Nat):B5->Prop
 |.code lo A k ts kh=>Gy P lo A (QK k) (Fw ts) kh.abs
 |.loop lo A k ts kh=>iter (fun K=>Gy P lo A (EW K (QK k))) f (Fw ts) kh.abs
 |.ops (lo) (q) (base) (i) (xs) (k) (ts) (kh)=>Run P lo q base i xs (QT k) (Fw ts) kh.abs
 |.call lo fv args kh k=>∃v Ct,k v Ct=true/\CX P fv lo kh.abs args v Ct.abs
 |.fn lo g args kh k=>∃v Ct,k v Ct=true/\AF P g lo kh.abs args v Ct.abs



theorem Dz {P:Program}{T:KT KFn}(hm:P.follows .mixedOrders=true) (hT:TabOk P T):∀(f:Nat) (t:B5),DF P T f t=true->t.Spec P f
 |0,t,h=>Bool.noConfusion h
 | f + 1, t, h =>by
   have ih:∀t,DF P T f t=true->t.Spec P f:=Dz hm hT f
   have h:Nc P T (DF P T f) t=true:=h
   cases t with
   | loop lo c k ts kh=>
     refine Dh c ?_ _ _ (show Gy P _ _ (QK _) _ _ from ih (.code ..) h)
     rintro e ts' h' ⟨tk,hk,rfl,rfl,hh⟩
     cases e with
     |normal=>exact ih _ hh
     |_=>exact⟨tk,hk,rfl,rfl,hh⟩
   | code lo A k ts kh=>
     have h:OG (DF P T f) lo k ts kh A=true:=h
     cases A with
     |skip=>exact⟨ts,kh,rfl,rfl,h⟩
     |ret=>exact⟨ts,kh,rfl,rfl,h⟩
     |exit id=>exact⟨ts,kh,rfl,rfl,h⟩
     | seq a b=>
       refine Dh a ?_ _ _ (show Gy P _ _ (QK _) _ _ from ih (.code ..) h)
       rintro e ts' h' ⟨tk,hk,rfl,rfl,hh⟩
       cases e with
       |normal=>exact ih _ hh
       |_=>exact⟨tk,hk,rfl,rfl,hh⟩
     | cond c a b=>
       have h:Kk (DF P T f) lo k ts kh c a b=true:=h
       unfold Kk at h
       rw[CU]at h
       split at h
       ·rename_i t hc
        refine⟨t,hc,?_⟩
        cases t
        ·rw[if_neg (by simp)];exact ih _ h
        ·rw[if_pos rfl];exact ih _ h
       ·cases h
     | block id c=>
       refine Dh c ?_ _ _ (show Gy P _ _ (QK _) _ _ from ih (.code ..) h)
       rintro e ts' h' ⟨tk,hk,rfl,rfl,hh⟩
       cases e with
       | exit id'=>
         simp only[EU]
         simp only[GZ beq_iff]at hh
         by_cases he:id'=id
         ·rw[if_pos he]
          rw[if_pos he]at hh
          exact⟨tk,hk,rfl,rfl,hh⟩
         ·rw[if_neg he]
          rw[if_neg he]at hh
          exact⟨tk,hk,rfl,rfl,hh⟩
       |_=>exact⟨tk,hk,rfl,rfl,hh⟩
     |loop c=>exact⟨f,ih (.loop ..) h⟩
     | reg ops=>
       have h:PG (DF P T f) lo k ts kh ops=true:=h
       unfold PG at h
       obtain⟨Ct,h,e⟩:=El h
       have:=ih (.ops ..) h
       simp only[B5.Spec,e]at this
       exact this
     | BN ops ap=>
       have h:Kj (DF P T f) lo k ts kh ops ap=true:=h
       unfold Kj at h
       obtain⟨Ct,h,e⟩:=El h
       have:=ih (.ops ..) h
       simp only[B5.Spec,e]at this
       refine Ga ?_ this
       rintro ts' h' ⟨tk,hk,rfl,rfl,hh⟩
       simp only at hh
       cases ha:Mf ap (Fw tk)with
       |false=>rw[ha]at hh;cases hh
       | true=>
         rw[ha]at hh
         exact⟨NV ha,tk,hk,rfl,rfl,hh⟩
     | range fv ps n Ed body A B=>
       have h:Hv (DF P T f) lo k ts kh fv ps n Ed body=true:=h
       unfold Hv at h
       rw[CU]at h
       split at h
       ·rename_i g first CL hv
        obtain⟨rows,h,hp⟩:=KT.Cd 64 h
        obtain⟨U0,h,e1⟩:=El h
        obtain⟨v,Wu,h,a⟩:=ih (.fn ..) h
        simp only at h
        refine⟨g,first,CL,hv,v,Wu.abs,?_,?_⟩
        ·have:U0.abs=kh.abs.enter (EX n (Fw ts) ps Ed body):=by
          rw[e1,KH.Iw hp]
          rfl
         rw[<-this]
         exact a
        ·split at h
         ·cases h
         ·rename_i st pd _ _ _ _ _ hne hg
          obtain⟨rows',h,hp'⟩:=KT.Cd 64 h
          refine⟨_,ND hg,?_,ts,_,rfl,?_,h⟩
          ·intro he
           exact hne he
          ·rw[KH.Iw hp']
           rfl
         ·cases h
       ·cases h
     |next x a b=>cases h
   | ops lo q base i ops k ts kh=>
     have h:PF P (DF P T f) lo q base i ops k ts kh=true:=h
     cases ops with
     |nil=>exact⟨ts,kh,rfl,rfl,h⟩
     | cons o rest=>
       simp only[B5.Spec,Run]
       unfold PF at h
       simp only at h
       cases hw:CN (Fw ts) o.guard with
       | false=>
         rw[hw]at h
         rw[if_neg (by simp)]
         obtain⟨ts',h,e⟩:=Fe h
         rw[<-e]
         exact ih _ h
       | true=>
         rw[hw]at h
         rw[if_pos rfl]
         simp only at h
         unfold Ws at h
         split at h
         ·rename_i ao hi
          obtain⟨v,Ct,h,ha⟩:=Rk h
          obtain⟨ts',h,e⟩:=Fe h
          rw[hi]
          refine⟨v,_,ha,?_⟩
          rw[<-e]
          exact ih _ h
         ·rename_i fv args hi
          rw[OE,CU]at h
          obtain⟨v,Ct,h,ha⟩:=ih (.call ..) h
          obtain⟨ts',h,e⟩:=Fe h
          rw[hi]
          refine⟨v,Ct.abs,?_,?_⟩
          ·cases q<;>exact ha
          ·rw[<-e]
           exact ih _ h
   | call lo fv args kh k=>
     have h:Kh P (DF P T f) lo fv args kh k=true:=h
     unfold Kh at h
     split at h
     ·rename_i g first CL
      rw[HK]at h
      obtain⟨v,Ct,h,a⟩:=ih (.fn ..) h
      exact⟨v,Ct,h,a.Vv⟩
     ·rename_i r _ _
      unfold KO at h
      split at h
      ·rename_i st pd size tmps ps Ed body hg
       cases hc:(Nat.ble lo r&&Nat.ble (r+1) kh.next&&Nat.beq args.length ps.length&&ps.all (fun p=>Nat.ble (p+1) size))with
       |false=>rw[hc]at h;cases h
       | true =>
         rw[hc]at h
         simp only at h
         simp only[Bool.and_eq_true]at hc
         obtain⟨⟨⟨c1,c2⟩,c3⟩,c4⟩:=hc
         split at h
         ·cases h
         ·rename_i A hA
          split at h
          ·cases h
          ·rename_i B hB
           obtain⟨Js,h,e0⟩:=Jd h
           have hy:YA P lo r A B ⟨st,pd,size,Fw tmps,ps,Ed,body⟩ args kh.abs (fun v h'=>∃Ct,k v Ct=true/\h'=Ct.abs):=by
            unfold YA
            simp only
            rw[<-e0]
            refine Dh A ?_ _ _ (show Gy P _ _ (QK _) _ _ from ih (.code ..) h)
            rintro e Iy h1 ⟨t1,k1,rfl,rfl,hh⟩
            unfold KQ at hh
            cases e<;>first|(cases hh;done)|skip
            simp only at hh
            split at hh
            ·rename_i pd1 vz dJ ps1 Ahh body1 hg1
             obtain⟨k1',hh,ep⟩:=DX hh
             refine⟨rfl,_,ND hg1,rfl,?_⟩
             have hi:=ih (.code ..) hh
             simp only[B5.Spec,ep]at hi
             refine Dh B ?_ _ _ hi
             rintro e2 lJ h2 ⟨t2,k2,rfl,rfl,hh⟩
             unfold Wv at hh
             simp only at hh
             split at hh
             ·cases hh
             ·rename_i p hre
              split at hh
              ·rename_i hg2
               obtain⟨k2',hh,ep2⟩:=DX hh
               refine⟨p,_,hre,ND hg2,_,hh,?_⟩
               rw[ep2]
               rfl
              ·cases hh
            ·cases hh
           obtain⟨v,h',⟨Ct,hk,rfl⟩,a⟩:=YA.call hm hA hB (ND hg) (Nat.le_of_ble_eq_true c1) (Nat.le_of_ble_eq_true c2) (Nat.eq_of_beq_eq_true c3)
            (List.all_eq_true.2 fun p hp=>decide_eq_true (Nat.le_of_ble_eq_true (List.all_eq_true.1 c4 p hp))) hy
           exact⟨v,Ct,hk,a⟩
      ·cases h
     ·cases h
   | fn lo g args kh k=>
     have h:jm P (DF P T f) lo T g args kh k=true:=h
     unfold jm at h
     split at h
     ·cases h
     ·rename_i e he
      have F:=hT g e he
      unfold FnOk at F
      split at h
      ·rename_i X hX
       simp only[hX]at F
       cases hc:Nat.ble lo kh.next with
       |false=>rw[hc]at h;cases h
       | true=>
         rw[hc]at h
         exact F lo args kh k h (Nat.le_of_ble_eq_true hc)
      ·rename_i hX
       simp only[hX]at F
       cases hc:(Nat.beq args.length e.na&&Nat.ble lo kh.next)with
       |false=>rw[hc]at h;cases h
       | true=>
         rw[hc]at h
         simp only at h
         simp only[Bool.and_eq_true]at hc
         obtain⟨c1,c2⟩:=hc
         obtain⟨t0,h,e0⟩:=IE h
         have et:Fw t0=Js args:=by
          funext m
          rw[e0]
          simp only[Nat.not_lt_zero,if_false,Nat.sub_zero,Js]
          cases args[m]? <;>rfl
         have hw:=ih (.code ..) h
         simp only[B5.Spec,et]at hw
         obtain⟨v,h',⟨Ct,hk,rfl⟩,a⟩:=F.call (h:=kh.abs) (lo:=lo) (R:=fun v h'=>∃Ct,k v Ct=true/\h'=Ct.abs) (Nat.eq_of_beq_eq_true c1) (Nat.le_of_ble_eq_true c2) (Dh e.A (by
          rintro e ts' h' ⟨tk,hk,rfl,rfl,hh⟩
          unfold Wq at hh
          cases e<;>first|(cases hh;done)|skip
          all_goals
           obtain⟨v,hv,hh⟩:=Ip hh
           exact⟨by simp,v,hv,hk,hh,rfl⟩) _ _ hw)
         exact⟨v,Ct,hk,a⟩

noncomputable def ER (P:Program) (T:KT KFn) (f g:Nat):Bool:=DF P T f (.fn 0 g [] ⟨0,.nil⟩ fun v _=>isTrue v)
theorem GY {P:Program}{T:KT KFn}(hm:P.follows .mixedOrders=true) (hT:TabOk P T) {f g:Nat}(he:ER P T f g=true) {lo:Nat}{h:H}:AW P g lo h [] (fun v h'=>v= .bool true/\h'=h):=by
 obtain⟨v,Ct,hv,a⟩:=Dz hm hT f _ he
 have hv:=NH hv
 subst hv
 exact⟨_,h,⟨rfl,rfl⟩,AF.alone a (fun I=>⟨rfl,trivial⟩) (fun I=>⟨by simp[ren],by simp[In]⟩) lo h⟩
end AE.KerT

/- A region that draws its order, with places that all that stands ahead of them is done before, and all behind them after: between two of them any order, or a call that may come to many ends. -/
namespace AE
open Go Go.RowKit
set_option linter.unusedVariables false

def dummy (o:Oper):Oper:={o with op:=match o.dst with|some d=>.move (.tmp d)|none=>.move (.const (.bool true)),guard:=none}
def behind (ops:Array Oper) (b:Nat):Array Oper:=ops.mapIdx fun i o=>if i<b then dummy o else o
theorem cP (ops:Array Oper) (b i:Nat):(behind ops b)[i]? =(ops[i]?).map fun o=>if i<b then dummy o else o:=by simp[behind]
theorem pg {P:Program}{n:Nat}{O:Array Oper}{o:Oper}{x:A7}(h:O9 P n O (dummy o)=some x):x.guard=none/\x.dst=o.dst/\∃y,x.ins= .op (.mv y)/\∀d,o.dst=some d->y= .t d:=by
 obtain⟨dst,op,ty,pos,af,g⟩:=o
 cases dst with
 | none=>
   have h:(if SZ (.op (.mv (.c (.bool true))))&&Md n none then some (⟨none,none,.op (.mv (.c (.bool true)))⟩:A7)else none)=some x:=h
   split at h
   ·simp only[Option.some.injEq]at h
    subst h
    exact⟨rfl,rfl,_,rfl,by simp⟩
   ·simp at h
 | some d=>
   have h:(if SZ (.op (.mv (.t d)))&&Md n (some d)then some (⟨some d,none,.op (.mv (.t d))⟩:A7)else none)=some x:=h
   split at h
   ·simp only[Option.some.injEq]at h
    subst h
    exact⟨rfl,rfl,_,rfl,by simp⟩
   ·simp at h
def barrier (ops:Array Oper) (p:Nat):Bool:=
 let ms:=masks ops ops.size
 (List.range ops.size).all fun j=>decide (j<p)||(List.range p).all fun i=>ord ms i j
theorem Pd {ops:Array Oper}{p:Nat}(h:barrier ops p=true):∀i j,i<p->p<=j->j<ops.size->ord (masks ops ops.size) i j=true:=by
 intro i j h1 h2 h3
 have:=List.all_eq_true.1 h j (by simpa using h3)
 simp only[Bool.or_eq_true,decide_eq_true_eq]at this
 rcases this with h|h
 ·omega
 ·exact List.all_eq_true.1 h i (by simpa using h1)

section
variable {P:Program}{ro:Option Nat}{n lo b c:Nat}{ops:Array Oper}

theorem XY (hlt:∀k e,e∈II ops k->e<k) {L:Nat->Prop}(hL:Down ops L) {i j:Nat}(hj:j<ops.size) (hb:∀e∈II ops j,L e) (ho:ord (masks ops ops.size) i j=true):L i:=by
 unfold ord at ho
 rw[IA ops _ _ hj]at ho
 exact(KL hL hlt j hb i ho).1

theorem uU {base:Nat}{O:Array Oper}{xs:List A7}{ap:List (BH × BH)}{S:Nat->Ts × H}{U:Nat->Option (Nat × BQ)}(hlt:∀k e,e∈II ops k->e<k) (hcs:c<=ops.size)
 (hbar:∀i j,i<c->c<=j->j<ops.size->ord (masks ops ops.size) i j=true) (hx:DO P n O O.toList=some xs) (hsz1:O.size=c) (hsub:∀i,i<c->b<=i->O[i]? =ops[i]?)
 (hsub2:∀i,i<c->(O[i]?).map (fun o=>(o.dst,o.after))=(ops[i]?).map fun o=>(o.dst,o.after)) (D:Xo O xs ap) (T:Text P lo base xs S U) {I0:AZ} {w0:World} {a0:Act}
 (hap:∀p∈ap,∀r∈A9 (ev (S xs.length).1 p.1),r∉A9 (ev (S xs.length).1 p.2)) {Q:Exit->Act->World->Prop} {fuel2:Nat}
 (hQ:∀J w1 a1,Inv n lo base O xs S U I0 w0 a0 (fun j=>j<xs.length) J w1 a1->∀arr:Array Bool,arr.size=ops.size->(∀j,listed arr j↔j<c)->wpAnyIn (WR ro) 0 P .any ops Q fuel2 arr a1 w1):
 ∀(fuel:Nat) (arr:Array Bool) (I:AZ) (w:World) (a:Act),arr.size=ops.size->(∀j,listed arr j->j<c)->(∀j,j<b->j<c->listed arr j)->left c arr=fuel->Inv n lo base O xs S U I0 w0 a0 (listed arr) I w a->wpAnyIn (WR ro) 0 P .any ops Q (fuel+fuel2) arr a w:=by
 obtain⟨OQ,hget⟩:=C0 hx
 have hlen:xs.length=c:=by rw[OQ,<-hsz1];simp
 have hbef:∀i,i<c->II O i=II ops i:=fun i hi=>by
  have h:=hsub2 i hi
  unfold II
  cases h1:O[i]? <;>cases h2:ops[i]? <;>rw[h1,h2]at h<;>simp at h⊢
  rw[h.2]
 have hall:∀(arr:Array Bool),left c arr=0->∀j,j<c->listed arr j:=by
  intro arr hz j hj
  unfold left at hz
  rw[List.length_eq_zero_iff,List.filter_eq_nil_iff]at hz
  have:=hz j (by simpa using hj)
  unfold listed
  simpa using this
 intro fuel
 induction fuel with
 | zero=>
   intro arr I w a hsz hl1 hl2 hl V
   rw[Nat.zero_add]
   have hL:listed arr=fun j=>j<xs.length:=by
    funext j
    exact propext ⟨fun h=>by have:=hl1 j h;omega,fun h=>hall arr hl j Al⟩
   rw[hL]at V
   exact hQ I w a V arr hsz fun j=>⟨hl1 j,fun h=>hall arr hl j h⟩
 | succ fuel ih=>
   intro arr I w a hsz hl1 hl2 hl V
   rw[show fuel+1+fuel2=fuel+fuel2+1 by omega]
   have Qt:Down ops (listed arr):=fun i hi e he=>by
    have h1:=hl1 i hi
    exact V.down i hi e (by rw[hbef i h1];exact he)
   have hex:∃j,j<c/\¬listed arr j:=by
    by_cases h:∃j,j<c/\¬listed arr j
    ·exact h
    ·exfalso
     have:left c arr=0:=by
      unfold left
      rw[List.length_eq_zero_iff,List.filter_eq_nil_iff]
      intro j hj
      rcases KM arr j with k|k
      ·unfold listed at k;simp only[k];simp
      ·exact absurd ⟨j,by simpa using hj,k⟩ h
     omega
   have hmin:∀j,j<c->¬listed arr j->∃j',j'<c/\j'∈Region.ready .any ops arr:=by
    intro j
    induction j using Nat.strongRecOn with
    | _ j ihj=>
      intro hj hn
      by_cases hb:∀e∈II ops j,listed arr e
      ·exact⟨j,hj,(Ff hsz).2 ⟨by omega,hn,hb⟩⟩
      ·have hb:∃e,e∈II ops j/\¬listed arr e:=by
        refine Classical.byContradiction fun h=>hb fun e he=>?_
        rcases KM arr e with k|k
        ·exact k
        ·exact absurd ⟨e,he,k⟩ h
       obtain⟨e,he,hne⟩:=hb
       have yH:=hlt j e he
       exact ihj e yH Al hne
   refine⟨fun hr=>?_,fun j hj=>?_⟩
   ·obtain⟨j,hj,hn⟩:=hex
    obtain⟨j', -,h⟩:=hmin j hj hn
    rw[hr]at h;simp at h
   ·obtain⟨hj1,hj2,hj3⟩:=(Ff hsz).1 hj
    have hjc:j<c:=by
     rcases Nat.lt_or_ge j c with h|h
     ·exact h
     ·exfalso
      obtain⟨i,hi,hn⟩:=hex
      exact hn (XY hlt Qt hj1 hj3 (hbar i j hi h hj1))
    have hjb:b<=j:=by
     rcases Nat.lt_or_ge j b with h|h
     ·exact absurd (hl2 j h hjc) hj2
     ·exact h
    obtain⟨y,hy, -⟩:=hget j O.toList[j] (List.getElem?_eq_getElem (by simp;omega))
    have R:ZO O xs (listed arr) j y:=⟨hy,hj2,fun e he=>hj3 e (by rw[<-hbef j hjc];exact he)⟩
    have h1:=take_one (ro:=ro) hx D T hap V R (K:=wpAnyIn (WR ro) 0 P .any ops Q (fuel+fuel2) (arr.setIfInBounds j true)) (Q:=Q) (fun J w1 a1 V'=>by
     refine ih _ J w1 a1 (by simpa using hsz) (fun k hk=>?_) (fun k hk hkc=>?_) ?_ ?_
     ·rw[FC Al]at hk
      rcases hk with hk|rfl
      ·exact hl1 k hk
      ·exact hjc
     ·rw[FC Al]
      exact .inl (hl2 k hk hkc)
     ·have:=Yu (m:=c) (arr:=arr) hjc Al (by simpa[listed]using hj2)
      omega
     ·rw[FC Al]
      exact V')
    unfold wpOpIn at h1⊢
    rw[hsub j hjc hjb]at h1
    obtain⟨o,ho⟩:∃o,ops[j]? =some o:=⟨ops[j],Array.getElem?_eq_getElem Al⟩
    rw[ho]at h1⊢
    have hw:Region.wanted o (yielded O a.tmps)=Region.wanted o (yielded ops a.tmps):=by
     unfold Region.wanted
     cases hg:o.guard with
     |none=>rfl
     | some p=>
       obtain⟨i,b'⟩:=p
       have ho1:O[j]? =some o:=by rw[hsub j hjc hjb,ho]
       obtain⟨x',hx',hxo⟩:=hget j o (by rw[Array.getElem?_toList];exact ho1)
       simp only[O9,P6,hg,Option.bind_eq_some_iff,Option.map_eq_some_iff]at hxo
       obtain⟨g,⟨d,⟨oi,hoi,hd⟩, -⟩, -⟩:=hxo
       have hi:i<c:=by have:=(Array.getElem?_eq_some_iff.1 hoi).1;omega
       have h:=hsub2 i hi
       have hd2:(O[i]?).bind (·.dst)=(ops[i]?).bind (·.dst):=by
        cases e1:O[i]? <;>cases e2:ops[i]? <;>rw[e1,e2]at h<;>simp at h⊢
        exact h.1
       simp only[yielded,hd2]
    simp only[hw]at h1
    exact h1

theorem sZ {m:Nat}{arr:Array Bool}(hb:b<=m) (h:∀j,listed arr j↔j<b):left m arr=m - b:=by
 have key:∀m,left m arr=m - b:=by
  intro m
  induction m with
  |zero=>simp[left]
  | succ m ih=>
    have hl:left (m+1) arr=left m arr+if arr.getD m false then 0 else 1:=by
     unfold left
     rw[List.range_succ,List.filter_append,List.length_append]
     congr 1
     simp only[List.filter_cons,List.filter_nil]
     cases arr.getD m false<;>rfl
    rw[hl,ih]
    by_cases hm:m<b
    ·have:=(h m).2 hm
     unfold listed at this
     rw[this]
     simp;omega
    ·have:arr.getD m false=false:=by
      have:=fun k=>hm ((h m).1 k)
      unfold listed at this
      simpa using this
     rw[this]
     simp;omega
 exact key m

theorem dQ {xs:List A7}{ap:List (BH × BH)}(hlt:∀k e,e∈II ops k->e<k) (hbc:b<=c) (hcs:c<=ops.size) (hbar:∀i j,i<c->c<=j->j<ops.size->ord (masks ops ops.size) i j=true)
 (hx:DO P n ((behind ops b).extract 0 c) ((behind ops b).extract 0 c).toList=some xs) (hd:qO ((behind ops b).extract 0 c) xs ap=true) {K:Ts->H->Prop} {ts:Ts} {h:H} (hlo:lo<=h.next)
 (hr:Run P lo true h.next 0 xs (fun Iy h1=>Apart ap Iy/\K Iy h1) ts (h.bump xs.length)) {I:AZ} {w:World} {a:Act} {arr:Array Bool} (k:Rel I h w) (t:Cu I n ts a.tmps) (hsz:arr.size=ops.size)
 (hl:∀j,listed arr j↔j<b) {Q:Exit->Act->World->Prop} {fuel2:Nat}
 (hQ:∀Iy h1 J w1 a1,K Iy h1->Quiet lo h h1->Dk I J lo h.next h1 w w1->Cu J n Iy a1.tmps->a1.defers=a.defers->∀arr:Array Bool,arr.size=ops.size->(∀j,listed arr j↔j<c)->wpAnyIn (WR ro) 0 P .any ops Q fuel2 arr a1 w1):
 wpAnyIn (WR ro) 0 P .any ops Q (c - b+fuel2) arr a w:=by
 have hO:∀i,i<c->((behind ops b).extract 0 c)[i]? =(ops[i]?).map fun o=>if i<b then dummy o else o:=fun i hi=>by
  rw[Array.getElem?_extract,<-cP]
  simp[behind]
  omega
 have hOs:((behind ops b).extract 0 c).size=c:=by simp[behind];omega
 generalize hOe:(behind ops b).extract 0 c=O at*
 have hlen:xs.length=c:=by rw[(C0 hx).1,<-hOs];simp
 have D:=OY hd
 obtain⟨S,U,h0,hstep,hap,hK⟩:=J3 xs 0 ts _ (fun x hx=>by obtain⟨i,hi,e⟩:=List.getElem_of_mem hx;exact D.FV i x (by rw[List.getElem?_eq_getElem hi,e])) hr
 have H5:∀i x,xs[i]? =some x->HV P lo h.next i x (S i) (U i) (S (i+1)):=fun i x hi=>by simpa using hstep i x hi
 have hroom:h.next+xs.length<=(S 0).2.next:=by rw[h0];exact Nat.le_refl _
 have hquiet:=quiet_of H5 hroom hlo xs.length (Nat.le_refl _)
 rw[h0]at hquiet
 have hq0:Quiet lo h (S xs.length).2:=⟨Nat.le_trans (Nat.le_add_right _ _) hquiet.next,hquiet.same,fun hc=>hquiet.clean fun r hr=>hc r (Nat.le_trans (Nat.le_add_right _ _) hr)⟩
 have T:Text P lo h.next xs S U:=⟨H5,hroom,by rw[h0];intro r hr;exact k.clean r (Nat.le_trans (Nat.le_add_right _ _) hr),by rw[h0];intro j _;exact k.clean _ (Nat.le_add_right _ _),hlo⟩
 have Aeq:∀j,j<b->S (j+1)=S j/\U j=none:=by
  intro j hj
  obtain⟨o,ho⟩:∃o,ops[j]? =some o:=⟨ops[j],Array.getElem?_eq_getElem Al⟩
  have hOj:O[j]? =some (dummy o):=by rw[hO j Al,ho];simp[hj]
  obtain⟨x,hxj,hxo⟩:=(C0 hx).2 j (dummy o) (by rw[Array.getElem?_toList];exact hOj)
  have hs:=H5 j x hxj
  have hx3:=pg hxo
  obtain⟨hx1,hx2,y,hx4,hx5⟩:=hx3
  generalize S j=s at hs
  generalize S (j+1)=s' at hs
  generalize U j=u at hs
  cases hs with
  |skip ts h hg=>rw[hx1]at hg;simp[CN]at hg
  | op ts h ao v u hg hi hu1 hu2=>
    rw[hx4]at hi
    simp only[Qh.op.injEq]at hi
    subst hi
    have e1:=hu2 ⟨fun _=>none,0⟩ (fun r hr=>by simp[B9.touch]at hr)
    simp only[C6,Option.some.injEq,Prod.mk.injEq]at e1
    have hun:u=none:=by
     cases u with
     |none=>rfl
     | some p=>
       exfalso
       have:=congrArg (fun g=>H.get g p.1) e1.2
       simp[H.upd,H.put]at this
    refine⟨?_,hun⟩
    rw[hun,<-e1.1,hx2]
    simp only[H.upd,Prod.mk.injEq,and_true]
    cases hod:o.dst with
    |none=>rfl
    | some d=>
      rw[hx5 d hod]
      funext m
      simp only[G0,JU,ev]
      split
      ·rename_i hm;rw[hm]
      ·rfl
  |call ts h f args v h' hg hi hc=>rw[hx4]at hi;simp at hi
 have hS:∀j,j<=b->S j=S 0:=by
  intro j
  induction j with
  |zero=>intro _;rfl
  |succ j ih=>intro hj;rw[(Aeq j Al).1];exact ih Al
 have tK:∀W:Nat->Prop,S (ver (fun j=>listed arr j/\W j) xs.length)=S 0:=by
  intro W
  rcases JZ (fun j=>listed arr j/\W j) xs.length with⟨h1, -⟩|⟨j,h1,h2,h3, -⟩
  ·rw[h1]
  ·rw[h2]
   exact hS _ (by have:=(hl j).1 h3.1;omega)
 have yM:Ir xs S (listed arr)=ts:=by
  funext t
  unfold Ir
  rw[tK,h0]
 have oA:∀r,(Fv xs S U (listed arr)).get r=h.get r:=by
  intro r
  simp only[Fv]
  rw[tK,h0]
  rfl
 have hsub2:∀i,i<c->(O[i]?).map (fun o=>(o.dst,o.after))=(ops[i]?).map fun o=>(o.dst,o.after):=fun i hi=>by
  rw[hO i hi]
  cases ops[i]? with
  |none=>rfl
  | some o=>
    simp only[Option.map_some]
    split<;>rfl
 rw[show c - b=left c arr from(sZ hbc hl).symm]
 refine uU (base:=h.next) (I0:=I) (w0:=w) (a0:=a) hlt hcs hbar hx hOs (fun i hi hb=>?_) hsub2 D T hap (fun J w1 a1 V arr' hsz' hl'=>?_) (left c arr) arr I w a hsz (fun j hj=>by have:=(hl j).1 hj;omega) (fun j hj _=>(hl j).2 hj) rfl ?_
 ·have hib:¬i<b:=by omega
  rw[hO i hi]
  simp[hib]
 ·refine hQ _ _ J w1 a1 hK hq0 ⟨⟨V.grows.le,V.grows.new⟩,V.dom,V.old,?_,⟨V.ext.os,V.ext.tape,V.ext.output,V.ext.size,V.ext.block⟩⟩ ?_ V.defers arr' hsz' hl'
  ·refine⟨fun r row hr d=>V.rel.rows r row ?_ d,V.rel.lt,V.rel.size,V.rel.base,V.rel.tabs,V.rel.inj,?_⟩
   ·rw[<-hr]
    exact IL (F:=fun k=>(S k).2.get r) (W:=fun j=>Wr xs S U j r) (T.heap (r:=r)) (Nat.le_refl _) (fun j hj _=>by simp[hj])
   ·exact T.clean' (Nat.le_refl _)
  ·have:Ir xs S (fun j=>j<xs.length)=(S xs.length).1:=by
    funext t
    exact IL (F:=fun k=>(S k).1 t) (W:=fun j=>Wt xs j t) (T.tmp (t:=t)) (Nat.le_refl _) (fun j hj _=>by simp[hj])
   rw[<-this]
   exact V.ts
 ·refine⟨fun j hj=>by have:=(hl j).1 hj;omega,fun j hj e he=>(hl e).2 (by have h1:=(hl j).1 hj;have:=D.lt j e he Al;omega),by rw[yM];exact t,⟨fun r row hr d=>k.rows r row (by rw[<-oA];exact hr) d,fun r d=>?_,k.size,k.base,k.tabs,k.inj,fun r hr=>?_⟩,fun j hj d=>?_,fun j y hy hc _ r d=>?_,fun j r row hj hu=>?_,CK.refl _ _,fun r d=>.inl d,fun _ _ _ _ e=>e,Ext.refl _ _ _,rfl⟩
  ·have h1:=k.lt r d
   have h2:=hquiet.next
   simp only[Fv,H.bump]at h2⊢
   omega
  ·rw[oA]
   have h2:=hquiet.next
   simp only[Fv,H.bump]at hr h2
   exact k.clean r Al
  ·have:=k.lt _ d
   omega
  ·have h1:=k.lt r d
   have h2:=T.room' (k:=j) (Nat.le_of_lt (List.getElem?_eq_some_iff.1 hy).1)
   omega
  ·rw[(Aeq j ((hl j).1 hj)).2]at hu
   cases hu

theorem pQ {x:A7}(hlt:∀k e,e∈II ops k->e<k) (hcs:c<ops.size) (hbar:∀i j,i<c->c<=j->j<ops.size->ord (masks ops ops.size) i j=true) (Aer:∀i j,i<c+1->c+1<=j->j<ops.size->ord (masks ops ops.size) i j=true)
 {xs:List A7} (hx:DO P n ops ops.toList=some xs) (hxc:xs[c]? =some x) {f:BH} {args:List BH} (hi:x.ins= .call f args) {K:Ts->H->Prop} {ts:Ts} {h:H} (hlo:lo<=h.next)
 (hr:JX P lo h.next 0 [x] K ts (h.bump 1)) {I:AZ} {w:World} {a:Act} {arr:Array Bool} (k:Rel I h w) (t:Cu I n ts a.tmps) (hsz:arr.size=ops.size)
 (hl:∀j,listed arr j↔j<c) {Q:Exit->Act->World->Prop} {fuel2:Nat}
 (hQ:∀Iy h1 J w1 a1,K Iy h1->Quiet lo h h1->Dk I J lo h.next h1 w w1->Cu J n Iy a1.tmps->a1.defers=a.defers->∀arr:Array Bool,arr.size=ops.size->(∀j,listed arr j↔j<c+1)->wpAnyIn (WR ro) 0 P .any ops Q fuel2 arr a1 w1):
 wpAnyIn (WR ro) 0 P .any ops Q (fuel2+1) arr a w:=by
 have Qt:Down ops (listed arr):=fun i hi e he=>by
  have h1:=(hl i).1 hi
  have:=hlt i e he
  exact(hl e).2 Al
 have hc:c∈Region.ready .any ops arr:=(Ff hsz).2 ⟨hcs,fun h=>by have:=(hl c).1 h;omega,fun e he=>(hl e).2 (hlt c e he)⟩
 refine⟨fun hr=>by rw[hr]at hc;simp at hc,fun j hj=>?_⟩
 obtain⟨hj1,hj2,hj3⟩:=(Ff hsz).1 hj
 have hji:j=c:=by
  rcases Nat.lt_trichotomy j c with h|h|h
  ·exact absurd ((hl j).2 h) hj2
  ·exact h
  ·exfalso
   have:=XY hlt Qt hj1 hj3 (Aer c j Al Al hj1)
   have:=(hl c).1 this
   omega
 subst hji
 have hnext:∀Iy h1 J w1 a1,K Iy h1->Quiet lo h h1->Dk I J lo h.next h1 w w1->Cu J n Iy a1.tmps->a1.defers=a.defers->wpAnyIn (WR ro) 0 P .any ops Q fuel2 (arr.setIfInBounds j true) a1 w1:=fun Iy h1 J w1 a1 hK hq hw t' hd=>
  hQ Iy h1 J w1 a1 hK hq hw t' hd _ (by simpa using hsz) fun i=>by
   rw[FC Al]
   simp only[L1,hl i]
   omega
 obtain⟨o,ho⟩:∃o,ops[j]? =some o:=⟨ops[j],Array.getElem?_eq_getElem hj1⟩
 obtain⟨x',hx',hxo⟩:=(C0 hx).2 j o (by rw[Array.getElem?_toList];exact ho)
 rw[hxc]at hx';simp at hx';subst hx'
 simp only[O9,Option.bind_eq_some_iff]at hxo
 obtain⟨gd,hgd,ins,hins,hxo⟩:=hxo
 split at hxo
 ·rename_i hok
  simp only[Bool.and_eq_true]at hok
  simp only[Option.some.injEq]at hxo
  subst hxo
  simp only at hi
  subst hi
  simp only[JX]at hr
  have kb:=k.bump 1
  have hq1:Quiet lo h (h.bump 1):=⟨Nat.le_add_right _ _,fun _ _=>rfl,fun hc r hr=>hc r (Nat.le_trans (Nat.le_add_right _ _) hr)⟩
  unfold wpOpIn
  simp only[ho,Gp t hgd]
  split at hr
  ·rename_i hw
   simp only[hw,if_true]
   obtain⟨c',ho',hcf,hcas⟩:=MN hins
   obtain⟨ef,iF⟩:=hcf I ts _ t.ev
   obtain⟨TS,Ub⟩:=Kq t.ev hcas
   refine hr.run o c' ro a I w _ Q ho' ef TS kb iF Ub fun v h1 J w1 hr hq BZ hin=>?_
   refine hnext _ h1 J w1 _ hr (hq1.trans hq) ⟨BZ.grows,fun r d=>(BZ.dom r d).imp id (fun e=>by simp only[H.bump]at e;omega),BZ.old,BZ.rel,BZ.ext⟩ ((t.le BZ.grows.le).put hin hok.2) (Act.Dt a o.dst (ren J v))
  ·rename_i hw
   have hw':CN ts gd=false:=by simpa using hw
   simp only[hw',Bool.false_eq_true,if_false]
   refine⟨fun _ _=>trivial,?_⟩
   have hu:=(Dr I)
   have tp:=t.put (v:=undef) hu.2 hok.2
   rw[hu.1]at tp
   exact hnext _ _ I w _ hr hq1 (Dk.refl kb) tp (Act.Dt a o.dst undef)
 ·simp at hxo
end

section
variable {P:Program}{ro:Option Nat}{n lo base c:Nat}{ops I6:Array Oper}{xs1:List A7}{ap:List (BH × BH)}{S:Nat->Ts × H}{U:Nat->Option (Nat × BQ)}
theorem KE {K:Ts->H->Prop}{b k:Nat}:∀(xs:List A7) (i:Nat) (ts:Ts) (h:H),JX P lo (b+k) i xs K ts h->JX P lo b (k+i) xs K ts h
 |[],_,_,_,hr=>hr
 | x::xs,i,ts,h,hr=>by
   simp only[JX]at hr⊢
   rw[show b+(k+i)=b+k+i by omega,show k+i+1=k+(i+1) by omega]
   split
   ·rename_i hw
    rw[if_pos hw]at hr
    cases hi:x.ins with
    | op ao=>
      rw[hi]at hr
      obtain⟨v,h',ha,hr⟩:=hr
      exact⟨v,h',ha,KE xs (i+1) _ _ hr⟩
    | call f args=>
      rw[hi]at hr
      exact hr.mono (Nat.le_refl _) fun v h' hr=>KE xs (i+1) _ _ hr
   ·rename_i hw
    rw[if_neg hw]at hr
    exact KE xs (i+1) _ _ hr

theorem WD.Abq {tp:Bool}{id:Nat}{xs:List A7}{Q:Exit->Ts->H->Prop}{ts:Ts}{h:H}(hm:P.follows .mixedOrders=true) (C:Cut ops c) (hx:DO P n ops ops.toList=some xs) (hsz1:I6.size=c) (hsub:∀i,i<c->I6[i]? =ops[i]?) (hx1:DO P n I6 I6.toList=some xs1)
 (hd:qO I6 xs1 ap=true) (hlo:lo<=h.next) (hr:Run P lo true h.next 0 xs1 (fun Iy h1=>Apart ap Iy/\JX P lo h1.next 0 (xs.drop c) (Q .normal) Iy (h1.bump (xs.drop c).length)) ts (h.bump xs1.length)):WD (TC tp P (.region id ops true)) n lo Q ts h:=by
 have hlen1:xs1.length=c:=by rw[(C0 hx1).1,<-hsz1];simp
 have hlen:xs.length=ops.size:=by rw[(C0 hx).1];simp
 have hcs:=C.inn
 have D:=OY hd
 obtain⟨S,U,h0,hstep,hap,hrest⟩:=J3 xs1 0 ts _ (fun x hx=>by obtain⟨i,hi,e⟩:=List.getElem_of_mem hx;exact D.FV i x (by rw[List.getElem?_eq_getElem hi,e])) hr
 have H5:∀i x,xs1[i]? =some x->HV P lo h.next i x (S i) (U i) (S (i+1)):=fun i x hi=>by simpa using hstep i x hi
 have hroom:h.next+xs1.length<=(S 0).2.next:=by rw[h0];exact Nat.le_refl _
 have hquiet:=quiet_of H5 hroom hlo xs1.length (Nat.le_refl _)
 rw[h0]at hquiet
 have hq0:Quiet lo h (S xs1.length).2:=⟨Nat.le_trans (Nat.le_add_right _ _) hquiet.next,hquiet.same,fun hc=>hquiet.clean fun r hr=>hc r (Nat.le_trans (Nat.le_add_right _ _) hr)⟩
 have hnx:h.next+c<=(S xs1.length).2.next:=by have:=hquiet.next;simp only[H.bump]at this;omega
 -- the end
 obtain⟨b,hb⟩:∃b,b+c=(S xs1.length).2.next:=⟨(S xs1.length).2.next - c,by omega⟩
 rw[<-hb]at hrest
 have hrest':=KE (b:=b) (k:=c) _ 0 _ _ hrest
 rw[Nat.add_zero]at hrest'
 have hdl:(xs.drop c).length=xs.length - c:=by simp
 intro ro I w a k t _
 refine wpIn_region_any hm ?_
 have T:Text P lo h.next xs1 S U:=⟨H5,hroom,by rw[h0];intro r hr;exact k.clean r (Nat.le_trans (Nat.le_add_right _ _) hr),by rw[h0];intro j _;exact k.clean _ (Nat.le_add_right _ _),hlo⟩
 have hno:∀j,¬listed (Array.replicate ops.size false) j:=by
  intro j hj
  unfold listed at hj
  rw[Array.getD_eq_getD_getElem?,Array.getElem?_replicate]at hj
  split at hj<;>simp at hj
 have yM:Ir xs1 S (listed (Array.replicate ops.size false))=ts:=by
  funext t
  unfold Ir
  rw[J0 _ (fun j hj=>hno j hj.1),h0]
 have oA:∀r,(Fv xs1 S U (listed (Array.replicate ops.size false))).get r=h.get r:=by
  intro r
  simp only[Fv]
  rw[J0 _ (fun j hj=>hno j hj.1),h0]
  rfl
 have kd:=k.drew
 have hfuel:ops.size=c+(ops.size - c):=by omega
 have hleft:left c (Array.replicate ops.size false)=c:=by
  unfold left
  rw[List.filter_eq_self.2]
  ·simp
  ·intro j _
   have:=hno j
   unfold listed at this
   simpa using this
 have main:=fY (ro:=ro) C hx1 hsz1 hsub D T (I0:=I) (w0:=w.drew) (a0:=a) hap (fuel2:=ops.size - c) (Q:=fun e' a' w'=>∃ts' h' J,Q e' ts' h'/\Quiet lo h h'/\Dk I J lo h.next h' w w'/\Cu J n ts' a'.tmps/\∃ms,a'.defers=ms++a.defers/\Marks J w w' ms) (fun J w1 a1 V arr hsz hl=>?_) c (Array.replicate ops.size false) I w.drew a (by simp) (fun j hj=>absurd hj (hno j)) hleft ?_
 ·rw[hfuel]
  rw[hfuel]at main
  simpa using main
 ·refine TA C (ops.size - c) c arr a1 w1 (Nat.le_refl _) Al hsz hl ?_
  have hrel:Rel J (S xs1.length).2 w1:=by
   refine⟨fun r row hr d=>V.rel.rows r row ?_ d,V.rel.lt,V.rel.size,V.rel.base,V.rel.tabs,V.rel.inj,T.clean' (Nat.le_refl _)⟩
   rw[<-hr]
   exact IL (F:=fun k=>(S k).2.get r) (W:=fun j=>Wr xs1 S U j r) (T.heap (r:=r)) (Nat.le_refl _) (fun j hj _=>by simp[hj])
  have hts:Cu J n (S xs1.length).1 a1.tmps:=by
   have:Ir xs1 S (fun j=>j<xs1.length)=(S xs1.length).1:=by
    funext t
    exact IL (F:=fun k=>(S k).1 t) (W:=fun j=>Wt xs1 j t) (T.tmp (t:=t)) (Nat.le_refl _) (fun j hj _=>by simp[hj])
   rw[<-this]
   exact V.ts
  have W1:Dk I J lo h.next (S xs1.length).2 w w1:=⟨⟨V.grows.le,V.grows.new⟩,V.dom,V.old,hrel,⟨V.ext.os,V.ext.tape,V.ext.output,V.ext.size,V.ext.block⟩⟩
  have:=Lt hx Al (xs.length - c) c Al _ _ (by simp only[H.bump];omega) hrest' ro J w1 a1 (hrel.bump _) hts (fun j h1 h2 d=>by have:=hrel.lt _ d;omega) (fun e' a' w'=>∃ts' h' J,Q e' ts' h'/\Quiet lo h h'/\Dk I J lo h.next h' w w'/\Cu J n ts' a'.tmps/\∃ms,a'.defers=ms++a.defers/\Marks J w w' ms)
   (fun ts' h' J' w' a' hK hq hw t' hd=>⟨ts',h',J',hK,hq0.trans ⟨Nat.le_trans (Nat.le_add_right _ _) hq.next,hq.same,fun hc=>hq.clean fun r hr=>hc r (Nat.le_trans (Nat.le_add_right _ _) hr)⟩,W1.trans hw Al,t',[],by rw[hd,V.defers];rfl,Marks.nil _ _ _⟩)
  rw[hlen]at this;exact this
 ·refine⟨fun j hj=>absurd hj (hno j),fun j hj=>absurd hj (hno j),by rw[yM];exact t,⟨fun r row hr d=>kd.rows r row (by rw[<-oA];exact hr) d,fun r d=>?_,kd.size,kd.base,kd.tabs,kd.inj,fun r hr=>?_⟩,fun j hj d=>?_,fun j y hy hc _ r d=>?_,fun j r row hj=>absurd hj (hno j),CK.refl _ _,fun r d=>.inl d,fun _ _ _ _ e=>e,Ext.refl _ _ _,rfl⟩
  ·have h1:=k.lt r d
   have h2:=hquiet.next
   simp only[Fv,H.bump]at h2⊢
   omega
  ·rw[oA]
   have h2:=hquiet.next
   simp only[Fv,H.bump]at hr h2
   exact k.clean r Al
  ·have:=k.lt _ d
   omega
  ·have h1:=k.lt r d
   have h2:=T.room' (k:=j) (Nat.le_of_lt (List.getElem?_eq_some_iff.1 hy).1)
   omega

end
end AE
