/- The evaluator and its laws: AEBase, AETabs, AEDefs, AELocal, AERead, AEComp, AELight, AELight2, AELight3, AERel, AEHeap, AEStore. No program in sight. -/
import Derived.WalkKit
import Derived.Orders
import Derived.Laws.CopyRow
set_option linter.unusedVariables false
set_option linter.unusedSimpArgs false
set_option linter.unusedSectionVars false

/- The abstract heap, and what it means that it lies in a world: rows are renamed into blocks. Plain definitions and lemmas; no program in sight. -/
namespace AE
open Go


structure AZ where
 at_:Nat->Option Nat->Option (Nat × Nat)
 cap:Nat->Nat->Nat
 base:Nat

def AZ.blk (I:AZ) (r:Nat):Nat:=match I.at_ r none with|some p=>p.1|none=>0
def AZ.dom (I:AZ) (r:Nat):Prop:=∃s p,I.at_ r s=some p

def Ew (I:AZ) (a:Addr):Option Addr:=match I.at_ a.block a.spot with|some p=>some ⟨p.1,p.2+a.off,none⟩|none=>none
def CH (I:AZ) (a:Addr) (c:Nat):Nat:=match a.spot with|none=>c|some g=>if c%2=1 then c / 2 else I.cap a.block g - c / 2
def Gs (I:AZ):Fn->Fn
 |.yield l=>.yield (I.blk l)
 |f=>f

def far:Nat:=2^70
def Qk (D o:Nat):Nat:=far+1+(D*4294967296+o)
def oW (I:AZ) (a:Addr) (c:Nat):Addr:=if c=far then a else match a.spot with
 |none=>a
 |some g=>if I.cap a.block g=(c - far - 1) / 4294967296 then(Ew I a).getD a else((Ew I a).getD a).add ((c - far - 1)%4294967296)
def oV (I:AZ) (a:Addr) (c:Nat):Nat:=if c=far then 0 else match a.spot with
 |none=>0
 |some g=>I.cap a.block g - (c - far - 1) / 4294967296
mutual
def ren (I:AZ):Value->Value
 |.pointer (some a)=>.pointer (Ew I a)
 |.slice (some a) n c=>if far<=c then .slice (some (oW I a c)) n (oV I a c)else .slice (Ew I a) n (CH I a c)
 |.map (some r)=>.map (some (I.blk r))
 |.func fn ⟨f⟩ ⟨c⟩=>.func (Gs I fn) ⟨AX I f⟩ ⟨AX I c⟩
 |.iface t v=>.iface t (ren I v)
 |.agg ⟨cs⟩=>.agg ⟨AX I cs⟩
 |.tuple ⟨vs⟩=>.tuple ⟨AX I vs⟩
 |v=>v
def AX (I:AZ):List Value->List Value
 |[]=>[]
 |v::vs=>ren I v::AX I vs
end

def Nm (I:AZ) (a:Addr):Prop:=∃p,I.at_ a.block a.spot=some p
def E4 (I:AZ) (a:Addr) (n c:Nat):Prop:=match a.spot with|none=>n<=c|some g=>if c%2=1 then n<=c / 2 else c / 2+n<=I.cap a.block g
def InR (I:AZ) (r:Nat):Prop:=∃b,I.at_ r none=some (b,0)
def Ku (I:AZ):Fn->Prop
 |.yield l=>InR I l
 |_=>True

mutual
def In (I:AZ):Value->Prop
 |.pointer (some a)=>Nm I a
 |.slice (some a) n c=>if far<=c then n=0/\(c=far\/Nm I a)else Nm I a/\E4 I a n c
 |.slice none n c=>n=0/\c=0
 |.map (some r)=>InR I r
 |.chan (some _)=>False
 |.func fn ⟨f⟩ ⟨c⟩=>Ku I fn/\C5 I f/\C5 I c
 |.iface _ v=>In I v
 |.agg ⟨cs⟩=>C5 I cs
 |.tuple ⟨vs⟩=>C5 I vs
 |_=>True
def C5 (I:AZ):List Value->Prop
 |[]=>True
 |v::vs=>In I v/\C5 I vs
end

theorem CQ {I:AZ}{a:Addr}{n c:Nat}(h:c<far):ren I (.slice (some a) n c)= .slice (Ew I a) n (CH I a c):=by
 simp only[ren];rw[if_neg (Nat.not_le.2 h)]
theorem Dp {I:AZ}{a:Addr}{n c:Nat}(h:c<far):In I (.slice (some a) n c)↔(Nm I a/\E4 I a n c):=by
 simp only[In];rw[if_neg (Nat.not_le.2 h)]
theorem Et {I:AZ}{a:Addr}{n c:Nat}(h:far<=c):ren I (.slice (some a) n c)= .slice (some (oW I a c)) n (oV I a c):=by
 simp only[ren];rw[if_pos h]
theorem Mj {I:AZ}{a:Addr}{n c:Nat}(h:far<=c):In I (.slice (some a) n c)↔(n=0/\(c=far\/Nm I a)):=by
 simp only[In];rw[if_pos h]
theorem Ko (I:AZ) (a:Addr):oW I a far=a:=if_pos rfl
theorem Kn (I:AZ) (a:Addr):oV I a far=0:=if_pos rfl
theorem IZ (I:AZ):∀l:List Value,AX I l=l.map (ren I)
 |[]=>by simp[AX]
 |v::vs=>by simp[AX,IZ I vs]
theorem MV (I:AZ):∀l:List Value,C5 I l↔∀v∈l,In I v
 |[]=>by simp[C5]
 |v::vs=>by simp[C5,MV I vs]
@[simp] theorem Cw (I:AZ) (l:List Value):(AX I l).length=l.length:=by simp[IZ]
theorem Dm (I:AZ) (l:List Value) (i:Nat):(AX I l)[i]? =(l[i]?).map (ren I):=by simp[IZ]
theorem Gm {I:AZ}{l:List Value}(h:C5 I l) {i:Nat}{v:Value}(hi:l[i]? =some v):In I v:=
 (MV I l).1 h v (List.mem_of_getElem? hi)
theorem Df {I:AZ}{a b:List Value}:C5 I (a++b)↔C5 I a/\C5 I b:=by
 simp only[MV,List.mem_append]
 constructor
 ·intro h;exact⟨fun v hv=>h v (.inl hv),fun v hv=>h v (.inr hv)⟩
 ·rintro⟨h,k⟩ v (hv|hv)
  ·exact h v hv
  ·exact k v hv
theorem CY (I:AZ) (a b:List Value):AX I (a++b)=AX I a++AX I b:=by simp[IZ]


structure Le (I J:AZ):Prop where
 at_:∀r s p,I.at_ r s=some p->J.at_ r s=some p
 cap:∀r g p,I.at_ r (some g)=some p->J.cap r g=I.cap r g
 base:J.base=I.base

theorem Le.refl (I:AZ):Le I I:=⟨fun _ _ _ h=>h,fun _ _ _ _=>rfl,rfl⟩
theorem Le.trans {I J K:AZ}(h:Le I J) (k:Le J K):Le I K:=
 ⟨fun r s p e=>k.at_ r s p (h.at_ r s p e),fun r g p e=>(k.cap r g p (h.at_ r _ p e)).trans (h.cap r g p e),k.base.trans h.base⟩
theorem Le.dom {I J:AZ}(h:Le I J) {r:Nat}:I.dom r->J.dom r:=fun⟨s,p,e⟩=>⟨s,p,h.at_ r s p e⟩
theorem Le.blk {I J:AZ}(h:Le I J) {r:Nat}(hr:InR I r):J.blk r=I.blk r:=by
 obtain⟨b,hb⟩:=hr
 simp[AZ.blk,hb,h.at_ _ _ _ hb]
theorem Le.inR {I J:AZ}(h:Le I J) {r:Nat}:InR I r->InR J r:=fun⟨b,hb⟩=>⟨b,h.at_ _ _ _ hb⟩
theorem Le.Ew {I J:AZ}(h:Le I J) {a:Addr}(ha:Nm I a):Ew J a=Ew I a:=by
 obtain⟨p,hp⟩:=ha
 simp[AE.Ew,hp,h.at_ _ _ _ hp]
theorem Le.inA {I J:AZ}(h:Le I J) {a:Addr}:Nm I a->Nm J a:=fun⟨p,hp⟩=>⟨p,h.at_ _ _ _ hp⟩
theorem Le.CH {I J:AZ}(h:Le I J) {a:Addr}{c:Nat}(ha:Nm I a):CH J a c=CH I a c:=by
 obtain⟨p,hp⟩:=ha
 unfold AE.CH
 cases hs:a.spot with
 |none=>rfl
 |some g=>rw[hs]at hp;simp[h.cap _ _ _ hp]
theorem Le.Aed {I J:AZ}(h:Le I J) {a:Addr}{n c:Nat}(ha:Nm I a) (hc:E4 I a n c):E4 J a n c:=by
 obtain⟨p,hp⟩:=ha
 unfold E4 at*
 cases hs:a.spot with
 |none=>rw[hs]at hc;exact hc
 |some g=>rw[hs]at hp hc;simp only[h.cap _ _ _ hp]at*;exact hc
theorem Le.Gs {I J:AZ}(h:Le I J) {f:Fn}(hf:Ku I f):Gs J f=Gs I f:=by
 cases f<;>simp only[AE.Gs]
 rw[h.blk hf]
theorem Le.Am0 {I J:AZ}(h:Le I J) {f:Fn}(hf:Ku I f):Ku J f:=by
 cases f<;>simp only[Ku]at*
 exact h.inR hf

mutual
theorem Le.ren {I J:AZ}(h:Le I J):∀v:Value,In I v->ren J v=ren I v/\In J v
 |.pointer (some a),hv=>by simp only[In,AE.ren]at*;exact⟨by rw[h.Ew hv],h.inA hv⟩
 |.pointer none,_=>by simp[In,AE.ren]
 | .slice (some a) n c,hv=>by
   rcases Nat.lt_or_ge c far with hc|hc
   ·rw[Dp hc]at hv
    rw[CQ hc,CQ hc,Dp hc]
    exact⟨by rw[h.Ew hv.1,h.CH hv.1],h.inA hv.1,h.Aed hv.1 hv.2⟩
   ·rw [Mj hc]at hv
    rw[Et hc,Et hc,Mj hc]
    obtain⟨h0,hv⟩:=hv
    rcases hv with rfl|hv
    ·rw[Ko,Ko,Kn,Kn]
     exact⟨rfl,h0,.inl rfl⟩
    ·refine⟨?_,h0,.inr (h.inA hv)⟩
     have e1:=h.Ew hv
     unfold oW oV
     rw[e1]
     cases hs:a.spot with
     |none=>rfl
     | some g=>
       obtain⟨p,hp⟩:=hv
       rw[hs]at hp
       dsimp only
       rw[h.cap _ _ _ hp]
 |.slice none n c,hv=>by simp only[In]at hv;obtain⟨rfl,rfl⟩:=hv;simp[In,AE.ren]
 |.map (some r),hv=>by simp only[In,AE.ren]at*;exact⟨by rw[h.blk hv],h.inR hv⟩
 |.map none,_=>by simp[In,AE.ren]
 |.chan (some _),hv=>by simp[In]at hv
 |.chan none,_=>by simp[In,AE.ren]
 | .func fn ⟨f⟩ ⟨c⟩,hv=>by
   simp only[In,AE.ren]at*
   obtain⟨e1,i1⟩:=Le.AX h f hv.2.1
   obtain⟨e2,i2⟩:=Le.AX h c hv.2.2
   exact⟨by rw[h.Gs hv.1,e1,e2],h.Am0 hv.1,i1,i2⟩
 | .iface t v,hv=>by
   simp only[In,AE.ren]at*
   obtain⟨e,i⟩:=Le.ren h v hv
   exact⟨by rw[e],i⟩
 | .agg ⟨cs⟩,hv=>by
   simp only[In,AE.ren]at*
   obtain⟨e,i⟩:=Le.AX h cs hv
   exact⟨by rw[e],i⟩
 | .tuple ⟨vs⟩,hv=>by
   simp only[In,AE.ren]at*
   obtain⟨e,i⟩:=Le.AX h vs hv
   exact⟨by rw[e],i⟩
 |.bool _,_=>by simp[In,AE.ren]
 |.int _ _,_=>by simp[In,AE.ren]
 |.float _ _,_=>by simp[In,AE.ren]
 |.complex _ _ _,_=>by simp[In,AE.ren]
 |.string _,_=>by simp[In,AE.ren]
 |.nilFunc,_=>by simp[In,AE.ren]
 |.nilIface,_=>by simp[In,AE.ren]
theorem Le.AX {I J:AZ}(h:Le I J):∀l:List Value,C5 I l->AX J l=AX I l/\C5 J l
 |[],_=>by simp[AE.AX,C5]
 | v::vs,hv=>by
   simp only[C5,AE.AX]at*
   obtain⟨e1,i1⟩:=Le.ren h v hv.1
   obtain⟨e2,i2⟩:=Le.AX h vs hv.2
   exact⟨by rw[e1,e2],i1,i2⟩
end


def PV:Fn->Bool
 |.yield _=>false
 |_=>true
mutual
def flat:Value->Bool
 |.bool _|.int _ _|.float _ _|.complex _ _ _|.string _|.nilFunc|.nilIface=>true
 |.pointer a=>a.isNone
 |.slice a n c=>a.isNone&&n==0&&c==0
 |.map r=>r.isNone
 |.chan r=>r.isNone
 |.func fn ⟨f⟩ ⟨c⟩=>PV fn&&DZ f&&DZ c
 |.iface _ v=>flat v
 |.agg ⟨cs⟩=>DZ cs
 |.tuple ⟨vs⟩=>DZ vs
def DZ:List Value->Bool
 |[]=>true
 |v::vs=>flat v&&DZ vs
end

mutual
theorem Cg (I:AZ):∀v:Value,flat v=true->ren I v=v/\In I v
 |.pointer (some a),h=>by simp[flat]at h
 |.pointer none,_=>by simp[In,ren]
 |.slice (some a) n c,h=>by simp[flat]at h
 |.slice none n c,h=>by simp[flat]at h;simp[In,ren,h]
 |.map (some r),h=>by simp[flat]at h
 |.map none,_=>by simp[In,ren]
 |.chan (some _),h=>by simp[flat]at h
 |.chan none,_=>by simp[In,ren]
 | .func fn ⟨f⟩ ⟨c⟩,h=>by
   simp only[flat,Bool.and_eq_true]at h
   obtain⟨e1,i1⟩:=FT I f h.1.2
   obtain⟨e2,i2⟩:=FT I c h.2
   have hf:Gs I fn=fn/\Ku I fn:=by cases fn<;>simp_all[PV,Gs,Ku]
   simp only[ren,In]
   exact⟨by rw[hf.1,e1,e2],hf.2,i1,i2⟩
 | .iface t v,h=>by
   simp only[flat]at h
   obtain⟨e,i⟩:=Cg I v h
   simp only[ren,In];exact⟨by rw[e],i⟩
 | .agg ⟨cs⟩,h=>by
   simp only[flat]at h
   obtain⟨e,i⟩:=FT I cs h
   simp only[ren,In];exact⟨by rw[e],i⟩
 | .tuple ⟨vs⟩,h=>by
   simp only[flat]at h
   obtain⟨e,i⟩:=FT I vs h
   simp only[ren,In];exact⟨by rw[e],i⟩
 |.bool _,_=>by simp[In,ren]
 |.int _ _,_=>by simp[In,ren]
 |.float _ _,_=>by simp[In,ren]
 |.complex _ _ _,_=>by simp[In,ren]
 |.string _,_=>by simp[In,ren]
 |.nilFunc,_=>by simp[In,ren]
 |.nilIface,_=>by simp[In,ren]
theorem FT (I:AZ):∀l:List Value,DZ l=true->AX I l=l/\C5 I l
 |[],_=>by simp[AX,C5]
 | v::vs,h=>by
   simp only[DZ,Bool.and_eq_true]at h
   obtain⟨e1,i1⟩:=Cg I v h.1
   obtain⟨e2,i2⟩:=FT I vs h.2
   simp only[AX,C5];exact⟨by rw[e1,e2],i1,i2⟩
end


def Bf:Value->List Value
 |.agg ⟨cs⟩=>cs
 |v=>[v]
theorem EI (v:Value):v.cells=⟨Bf v⟩:=by cases v<;>rfl
theorem Ra (I:AZ) (cs:List Value):ren I (.agg ⟨cs⟩)= .agg ⟨AX I cs⟩:=by simp[ren]
theorem Jj (I:AZ) (v:Value):Bf (ren I v)=AX I (Bf v):=by
 match v with
 |.agg ⟨cs⟩=>simp[ren,Bf]
 |.pointer (some a)=>simp[ren,Bf,AX]
 |.pointer none=>simp[ren,Bf,AX]
 |.slice (some a) n c=>rcases Nat.lt_or_ge c far with hc|hc<;>simp[CQ,Et,hc,Bf,AX]
 |.slice none n c=>simp[ren,Bf,AX]
 |.map (some r)=>simp[ren,Bf,AX]
 |.map none=>simp[ren,Bf,AX]
 |.chan _=>simp[ren,Bf,AX]
 |.func fn ⟨f⟩ ⟨c⟩=>simp[ren,Bf,AX]
 |.iface t v=>simp[ren,Bf,AX]
 |.tuple ⟨vs⟩=>simp[ren,Bf,AX]
 |.bool _=>simp[ren,Bf,AX]
 |.int _ _=>simp[ren,Bf,AX]
 |.float _ _=>simp[ren,Bf,AX]
 |.complex _ _ _=>simp[ren,Bf,AX]
 |.string _=>simp[ren,Bf,AX]
 |.nilFunc=>simp[ren,Bf,AX]
 |.nilIface=>simp[ren,Bf,AX]
theorem Jo {I:AZ}{v:Value}(h:In I v):C5 I (Bf v):=by
 match v with
 |.agg ⟨cs⟩=>simpa[In,Bf]using h
 |.pointer (some a)=>simpa[Bf,C5]using h
 |.pointer none=>simp[Bf,C5,In]
 |.slice (some a) n c=>simpa[Bf,C5]using h
 |.slice none n c=>simpa[Bf,C5]using h
 |.map (some r)=>simpa[Bf,C5]using h
 |.map none=>simp[Bf,C5,In]
 |.chan (some _)=>simp[In]at h
 |.chan none=>simp[Bf,C5,In]
 |.func fn ⟨f⟩ ⟨c⟩=>simpa[Bf,C5]using h
 |.iface t v=>simpa[Bf,C5]using h
 |.tuple ⟨vs⟩=>simpa[Bf,C5]using h
 |.bool _=>simp[Bf,C5,In]
 |.int _ _=>simp[Bf,C5,In]
 |.float _ _=>simp[Bf,C5,In]
 |.complex _ _ _=>simp[Bf,C5,In]
 |.string _=>simp[Bf,C5,In]
 |.nilFunc=>simp[Bf,C5,In]
 |.nilIface=>simp[Bf,C5,In]

end AE

/- The tables of the library's that the walk reads: the number of the variable, its cells. (None here; for the clerk's seat: tools/AETabs.clerk.lean.) -/
namespace AE
open Go
def rE:List (Nat × List Value):=[]
end AE

/- The code of the abstract evaluator, its heap, and its single operations. Definitions alone. -/
namespace AE
open Go


inductive BH where
 |t (n:Nat)
 |c (v:Value)
 |m (n:Nat) (nm:String)

inductive qH where
 |add|sub|mul|eql|neq|lss|leq|gtr|geq

inductive B9 where
 |mv (x:BH)
 |pick (c a b:BH)
 |alloc (z:List Value) (e:TypeId)
 |box (x:BH) (e:TypeId)
 |build (z:List Value) (parts:List (Nat × Nat × BH))
 |BF (z:List Value) (parts:List (Nat × Nat × BH)) (len:Nat) (e:TypeId)
 |Af (a:BH)
 |Az (n:Nat) (a:BH)
 |store (n:Nat) (a x:BH)
 |BP (x:BH)
 |int (op:qH) (x y:BH)
 |EV (q:Bool) (x y:BH)
 |not (x:BH)
 |neg (x:BH)
 |conv (k:IntKind) (x:BH)
 |Il (mx:Bool) (x y:BH)
 |pure (o:Oper)
 |cmp (sl:Option Bool) (ne:Bool) (x y:BH) (o:Oper)
 |Wl (t:TypeId) (x:BH)
 |Hf (fn:Fn) (first captured:List BH)
 |LO
 |FP (z:List Value) (bytes:Nat) (e:TypeId) (l c:BH)
 |Ls (n sz:Nat) (x:BH) (lo hi mx:Option BH)
 |HL (sz:Nat) (x:BH) (lo hi mx:Option BH)
 |Ai (off:Nat) (x:BH)
 |field1 (off:Nat) (x:BH)
 |Tg (off n:Nat) (x:BH)
 |Cc (n sz:Nat) (x i:BH)
 |Bb (sz:Nat) (x i:BH)
 |tu (n:Nat) (x i:BH)
 |jn (n sz:Nat) (x i:BH)
 |extract (x:BH) (i:Nat)
 |rG (t:TypeId) (z:Value) (ok:Bool) (x:BH)
 |Z2 (t:TypeId) (x:BH)
 |lookup (kt:TypeId) (z:Value) (ok:Bool) (m k:BH)
 |Ig (kt:TypeId) (m k v:BH)
 |len (x:BH)
 |bf (x:BH)
 |NC (x:BH)
 |b2s (x:BH)
 |cap (x:BH)
 |append (e:TypeId) (sz bytes:Nat) (s x:BH)
 |copy (sz:Nat) (d s:BH)
 |qP (z:List Value) (x:BH)
 |dead
 |delete (kt:TypeId) (m k:BH)
 |GI (m:BH)
 |Nr (x:BH)
 |M1 (x:BH)
 |entry (x:BH)
 |H4 (kt:TypeId) (z:Value) (m k:BH)
 |Mc (m s v:BH)

inductive Qh where
 |op (o:B9)
 |call (f:BH) (args:List BH)

structure A7 where
 dst:Option Nat
 guard:Option (Nat × Bool)
 ins:Qh

inductive Ay where
 |skip
 |ret
 |exit (id:Nat)
 |seq (a b:Ay)
 |cond (c:BH) (a b:Ay)
 |block (id:Nat) (c:Ay)
 |loop (c:Ay)
 |reg (ops:List A7)
 |BN (ops:List A7) (apart:List (BH × BH))
 |range (f:BH) (params:List Nat) (n:Nat) (Ed body:Code) (Aou Aoc:Ay)
 |next(x:BH) (a b:Nat)

inductive Uh where
 |none|ret|exit (id:Nat)

abbrev Ts:=Nat->Value
def JU (ts:Ts) (i:Nat) (v:Value):Ts:=fun j=>if j=i then v else ts j

structure F3 where
 state:LoopState
 pend:Uh
 size:Nat
 tmps:Ts
 params:List Nat
 Ed:Code
 body:Code

inductive BQ where
 |cells (c:List Value) (e:TypeId)
 |ro (c:List Value)
 |grow (c:List Value) (e:TypeId) (sz:Nat) (lens:List Nat) (valid:Nat)
 |map (es:List MapEntry) (clock:Nat)
 |iter (m since:Nat) (seen:List Nat) (last:Nat)
 |Oc (s:ByteArray) (pos:Nat)
 |loop (l:F3)
 |defers
 |gone

structure H where
 get:Nat->Option BQ
 next:Nat

def H.put (h:H) (r:Nat) (x:BQ):H:=⟨fun j=>if j=r then some x else h.get j,h.next⟩
def H.empty:H:=⟨fun _=>none,0⟩

def cut {α:Type}(xs:List α) (off n:Nat):Option (List α):=if off+n<=xs.length then some ((xs.drop off).take n)else none
def splice {α:Type}(xs:List α) (off:Nat) (ys:List α):List α:=xs.take off++ys++xs.drop (off+ys.length)

def GN (lens:List Nat) (g:Nat):Nat:=(lens[lens.length - 1 - g]?).getD 0

def Cr (off n:Nat):BQ->Option Nat->Option (List Value)
 |.cells c _,none=>cut c off n
 |.ro c,none=>cut c off n
 |.grow c _ _ lens valid,some g=>if valid<=g/\g<lens.length/\off+n<=GN lens g then cut c off n else none
 |_,_=>none

def H.Bu (h:H) (a:Addr) (n:Nat):Option (List Value):=(h.get a.block).bind fun row=>Cr a.off n row a.spot

def DI (off:Nat) (vs:List Value):BQ->Option Nat->Option BQ
 |.cells c e,none=>if off+vs.length<=c.length then some (.cells (splice c off vs) e)else none
 |.grow c e sz lens valid,some g=>if valid<=g/\g+1=lens.length/\off+vs.length<=c.length then some (.grow (splice c off vs) e sz lens g)else none
 |_,_=>none

def H.En (h:H) (lo:Nat) (a:Addr) (vs:List Value):Option H:=
 if lo<=a.block/\vs.all Value.oneCell'=true then(h.get a.block).bind fun row=>(DI a.off vs row a.spot).map fun row'=>h.put a.block row' else none


def Bl {α:Type}(P:Program):Sem α->Option α
 |.pure a=>some a
 |.program k=>Bl P (k P)
 |_=>none

def ev (ts:Ts):BH->Value
 |.t n=>ts n
 |.c v=>v
 |.m n nm=>.func (.method nm) ⟨[ts n]⟩ ⟨[]⟩

def BI (a:Addr) (n:Nat):Addr:=⟨a.block,a.off+n,a.spot⟩

def HX (z:List Value):Nat->List Value
 |0=>[]
 |n+1=>z++HX z n

def Hl (ts:Ts):List Value->List (Nat × Nat × BH)->Option (List Value)
 |cells,[]=>some cells
 | cells,(off,size,x)::rest=>
   if(Bf (ev ts x)).length=size/\off+size<=cells.length then Hl ts (splice cells off (Bf (ev ts x))) rest else none

abbrev R:=Option (Value × H)

def Ka (Br:Nat) (e:TypeId) (c:List Value) (h:H):R:=some (.pointer (some ⟨Br,0,none⟩),h.put Br (.cells c e))

def Ul (a b:Value):Value->Option Value
 |.bool t=>some (if t then a else b)
 |_=>none
def JR (h:H):Value->Option Value
 |.pointer (some a)=>(h.Bu a 1).bind (·[0]?)
 |_=>none
def JQ (n:Nat) (h:H):Value->Option Value
 |.pointer (some a)=>(h.Bu a n).map fun l=>.agg ⟨l⟩
 |_=>none
def Kv (lo n:Nat) (vs:List Value) (h:H):Value->R
 |.pointer (some a)=>if vs.length=n then(h.En lo a vs).map fun h'=>(undef,h')else none
 |_=>none
def Ry:Value->Option Value
 |.pointer (some a)=>some (.pointer (some a))
 |_=>none

def Xp (n:Int):Int:=IntKind.i64.wrap n
def ZK:qH->Int->Int->Value
 |.add,a,b=>.int .i64 (Xp (a+b))
 |.sub,a,b=>.int .i64 (Xp (a - b))
 |.mul,a,b=>.int .i64 (Xp (a*b))
 |.eql,a,b=>.bool (a==b)
 |.neq,a,b=>.bool (a !=b)
 |.lss,a,b=>.bool (a<b)
 |.leq,a,b=>.bool (a<=b)
 |.gtr,a,b=>.bool (a>b)
 |.geq,a,b=>.bool (a>=b)
def kV (op:qH):Value->Value->Option Value
 |.int .i64 a,.int .i64 b=>some (ZK op a b)
 |_,_=>none
def Qj (q:Bool):Value->Value->Option Value
 |.int .i64 a,.int .i64 b=>if b=0 then none else some (.int .i64 (if q then Xp (a.tdiv b)else a.tmod b))
 |_,_=>none
def gJ:Value->Option Value
 |.bool b=>some (.bool (!b))
 |_=>none
def qX:Value->Option Value
 |.int .i64 a=>some (.int .i64 (Xp (0 - a)))
 |_=>none
def dD (k:IntKind):Value->Option Value
 |.int _ n=>some (.int k (k.wrap n))
 |_=>none
def Um (mx:Bool):Value->Value->Option Value
 |.int .i64 a,.int .i64 b=>some (.int .i64 (if mx then(if a<b then b else a)else(if b<a then b else a)))
 |_,_=>none

def Rc:Option Next->Option Value
 |some (.value v)=>if flat v then some v else none
 |_=>none
def Ud (ts:Ts):Operand->Value
 |.tmp t=>ts t
 |.const v=>v
 |.global _=>undef
 |.func f=>.func (.func f) #[] #[]
def Ib (P:Program) (ts:Ts) (o:Oper):Option Value:=
 if o.op.operands.toList.all (fun x=>flat (Ud ts x))then Rc (Bl P (execOp (Ud ts) o))else none

def pG (sl:Option Bool):Value->Value->Option Bool
 |.pointer a,.pointer b=>if sl=some false/\(a.isNone\/b.isNone)then some (a.isNone&&b.isNone)else none
 |.slice a _ _,.slice b _ _=>if sl=some true/\(a.isNone\/b.isNone)then some (a.isNone&&b.isNone)else none
 |.map a,.map b=>if sl=none/\(a.isNone\/b.isNone)then some (a.isNone&&b.isNone)else none
 |_,_=>none
def dZ (P:Program) (sl:Option Bool) (o:Oper):Value->Value->Bool
 | .pointer (some a),.pointer (some b)=>decide (a=b)&&(sl==some false)&&(match o.op with
   | .binOp _ t _ _ _=>(match P.underlying t with
     |some (.pointer e)=>(P.info? e).isSome
     |_=>false)
   |_=>false)
 |_,_=>false
def qY (P:Program) (sl:Option Bool) (ne:Bool) (ts:Ts) (x y:BH) (o:Oper):Option Value:=
 match pG sl (ev ts x) (ev ts y)with
 |some b=>some (.bool (b !=ne))
 |none=>if dZ P sl o (ev ts x) (ev ts y)=true then some (.bool (!ne))else Ib P ts o

def C9 :Value->Option Nat
 |.int _ n=>if 0<=n then some n.toNat else none
 |_=>none
def CM (d:Nat):Option Value->Option Nat
 |none=>some d
 |some v=>C9 v

def JY (Br:Nat) (z:List Value) (bytes:Nat) (e:TypeId) (h:H):Option Nat->Option Nat->R
 |some l,some c=>if l<=c/\(c+1) * (bytes+1)<=2^40 then some (.slice (some ⟨Br,0,none⟩) l c,h.put Br (.cells (HX z c) e))else none
 |_,_=>none

def Dy (a:Addr) (l m sz:Nat):Addr:=if m=l then a else BI a (l*sz)
def Ee (enc:Nat->Nat) (c sz:Nat) (a:Addr):Option Nat->Option Nat->Option Nat->Option Value
 |some l,some hi,some m=>if m<=c/\hi<=m/\l<=hi/\enc (m - l)<far then some (.slice (some (Dy a l m sz)) (hi - l) (enc (m - l)))else none
 |_,_,_=>none
def VT (len cap sz:Nat) (a:Addr):Option Nat->Option Nat->Option Value
 | some l,some hi=>if hi<=len/\l<=hi/\(l=0\/l<len)/\cap+2*l<far then some (.slice (some (BI a (l*sz))) (hi - l) (cap+2*l))else
   if hi<=len/\l=hi/\l=len/\l*sz<4294967296 then some (.slice (some a) 0 (Qk (cap / 2+l) (l*sz)))else none
 |_,_=>none
def enc1 (c:Nat):Nat:=c
def enc2 (c:Nat):Nat:=2*c+1
def fI:Option Nat->Nat->Nat
 |none=>enc1
 |some _=>enc2
def R5 (len cap sz:Nat) (a:Addr) (lo hi mx:Option Value):Option Value:=
 if cap%2=1 then Ee enc2 (cap / 2) sz a (CM 0 lo) (CM len hi) (CM (cap / 2) mx)
 else match mx with
  |none=>VT len cap sz a (CM 0 lo) (CM len hi)
  |some m=>Ee enc2 len sz a (CM 0 lo) (CM len hi) (C9 m)
def lV:Option Nat->Option Nat->Option Nat->Option Value
 |some l,some hi,some m=>if l=0/\hi=0/\m=0 then some (.slice none 0 0)else none
 |_,_,_=>none
def lW (a:Addr):Option Nat->Option Nat->Option Nat->Option Value
 |some l,some hi,some m=>if l=0/\hi=0/\m=0 then some (.slice (some a) 0 far)else none
 |_,_,_=>none
def HL (sz:Nat) (lo hi mx:Option Value):Value->Option Value
 | .slice (some a) len cap=>
   if far<=cap then(if cap=far then lW a (CM 0 lo) (CM 0 hi) (CM 0 mx)else none)else
   match a.spot with
   |none=>Ee enc1 cap sz a (CM 0 lo) (CM len hi) (CM cap mx)
   |some _=>R5 len cap sz a lo hi mx
 |.slice none 0 0=>lV (CM 0 lo) (CM 0 hi) (CM 0 mx)
 |_=>none
def Ls (n sz:Nat) (lo hi mx:Option Value):Value->Option Value
 |.pointer (some a)=>Ee (fI a.spot) n sz a (CM 0 lo) (CM n hi) (CM n mx)
 |_=>none

def RA (off:Nat):Value->Option Value
 |.pointer (some a)=>some (.pointer (some (BI a off)))
 |_=>none
def N7 (off:Nat):Value->Option Value
 |.agg cs=>cs.toList[off]?
 |_=>none
def QX (off n:Nat):Value->Option Value
 |.agg cs=>(cut cs.toList off n).map fun l=>.agg ⟨l⟩
 |_=>none
def Rz (n sz:Nat) (i:Value):Value->Option Value
 |.pointer (some a)=>(C9 i).bind fun i=>if i<n then some (.pointer (some (BI a (i*sz))))else none
 |_=>none
def Xx (sz:Nat) (i:Value):Value->Option Value
 |.slice (some a) n _=>(C9 i).bind fun i=>if i<n then some (.pointer (some (BI a (i*sz))))else none
 |_=>none
def kU (n:Nat) (i:Value):Value->Option Value
 |.agg cs=>(C9 i).bind fun i=>if i<n then cs.toList[i]? else none
 |_=>none
def dB (n sz:Nat) (i:Value):Value->Option Value
 |.agg cs=>(C9 i).bind fun i=>if i<n then(cut cs.toList (i*sz) sz).map fun l=>.agg ⟨l⟩else none
 |_=>none
def Ll (i:Nat):Value->Option Value
 |.tuple vs=>vs.toList[i]?
 |_=>none
def kS (t:TypeId) (z:Value) (ok:Bool):Value->Option Value
 |.iface u v=>if u=t then some (if ok then .tuple #[v,.bool true]else v)else if ok then some (.tuple #[z,.bool false])else none
 |.nilIface=>if ok then some (.tuple #[z,.bool false])else none
 |_=>none

def Vz (P:Program) (t:TypeId):Value->Option Value
 | .iface u v=>match P.underlying t,P.info? u with
   |some (.interface want),some i=>if(Instr.missingMethod want i.methods).isNone=true then some (.iface u v)else none
   |_,_=>none
 |_=>none


def Tw (s:ByteArray) (n:Nat):List Value:=(s.extract 0 n).data.toList.map fun b=>Value.int .u8 b.toNat

def Dv (h:H) (sz n:Nat):Value->Option (List Value)
 |.slice (some a) _ c=>if far<=c then(if n=0 then some []else none)else h.Bu a (n*sz)
 |.slice none _ _=>some []
 |.string s=>if sz=1/\n<=s.size then some (Tw s n)else none
 |_=>none
def iu:List Value->ByteArray->Option ByteArray
 |[],s=>some s
 |.int .u8 n::t,s=>iu t (s.push (UInt8.ofNat n.toNat))
 |_,_=>none
def kW (h:H):Value->Option Value
 |.slice a n c=>(Dv h 1 n (.slice a n c)).bind fun l=>(iu l .empty).map .string
 |_=>none
def FK:Value->Option Nat
 |.slice _ n _=>some n
 |.string s=>some s.size
 |_=>none

def small (n bytes:Nat):Prop:=(n+1) * (bytes+1)<=2^40
instance (n bytes:Nat):Decidable (small n bytes):=by unfold small;infer_instance
def Ef (Br n:Nat) (e:TypeId) (sz:Nat) (c:List Value) (h:H):R:=some (.slice (some ⟨Br,0,some 0⟩) n 0,h.put Br (.grow c e sz [c.length] 0))
def G8 (lo Br:Nat) (e:TypeId) (sz bytes:Nat) (a:Addr) (len cap c n:Nat) (nc:List Value) (h:H):R:=
 if len+n<=c then(h.En lo (BI a (len*sz)) nc).map fun h'=>(.slice (some a) (len+n) cap,h')
 else if small (len+n) bytes/\small c bytes then(h.Bu a (len*sz)).bind fun oc=>Ef Br (len+n) e sz (oc++nc) h else none
def Pf (lo:Nat) (e:TypeId) (sz bytes:Nat) (a:Addr) (g len cap n:Nat) (nc:List Value) (h:H):BQ->R
 | .grow c e' sz' lens valid=>
   if lo<=a.block/\valid<=g/\g+1=lens.length/\cap=0/\a.off=0/\len*sz=c.length/\e=e'/\sz=sz'/\small (len+n) bytes/\nc.all Value.oneCell'=true then
    some (.slice (some ⟨a.block,0,some (g+1)⟩) (len+n) 0,h.put a.block (.grow (c++nc) e sz ((c.length+nc.length)::lens) valid))
   else if lo<=a.block/\valid<=g/\g+1=lens.length/\cap%2=0/\a.off=cap / 2*sz/\a.off+len*sz=c.length/\e=e'/\sz=sz'/\small (len+n) bytes/\nc.all Value.oneCell'=true then
    some (.slice (some ⟨a.block,0,some (g+1)⟩) (len+n) 0,h.put a.block (.grow (c.drop a.off++nc) e sz ((len*sz+nc.length)::lens.map fun _=>0) (g+1)))
   else none
 |_=>none
def KY (lo Br:Nat) (e:TypeId) (sz bytes:Nat) (a:Addr) (len cap n:Nat) (nc:List Value) (h:H):R:=
 match a.spot with
 |none=>G8 lo Br e sz bytes a len cap cap n nc h
 | some g=>
   if cap%2=1 then G8 lo Br e sz bytes a len cap (cap / 2) n nc h
   else(h.get a.block).bind fun row=>Pf lo e sz bytes a g len cap n nc h row
def EE (lo Br:Nat) (e:TypeId) (sz bytes:Nat) (s x:Value) (h:H):R:=
 (FK x).bind fun n=>
 if n=0 then(match s with|.slice _ _ _=>some (s,h)|_=>none)else
 (Dv h sz n x).bind fun nc=>
 match s with
 |.slice (some a) len cap=>if far<=cap then(if cap=far/\len=0/\small n bytes then Ef Br n e sz nc h else none)else KY lo Br e sz bytes a len cap n nc h
 |.slice none 0 0=>if small n bytes then Ef Br n e sz nc h else none
 |_=>none

def N8 (lo sz:Nat) (d s:Value) (h:H):R:=
 match d with
 | .slice base len cap=>
   if far<=cap then none else
   (FK s).bind fun k=>
   let n:=if k<=len then k else len
   (Dv h sz n s).bind fun nc=>
   match base with
   |some a=>(if n=0 then some h else h.En lo a nc).map fun h'=>(.int .i64 n,h')
   |none=>some (.int .i64 n,h)
 |_=>none

def ZU (lo:Nat) (z:List Value) (v:Value) (h:H):R:=
 match v with
 |.slice (some a) n c=>if n=0 then some (.tuple #[],h)else if far<=c then none else(h.En lo a (HX z n)).map fun h'=>(.tuple #[],h')
 |.slice none 0 0=>some (.tuple #[],h)
 |_=>none


def bare (es:List MapEntry):List MapEntry:=es.map fun e=>⟨e.key,undef,e.born⟩
def Je (es:List MapEntry):Bool:=es.all fun e=>flat e.key
def F0 (P:Program) (empty:Bool) (kt:TypeId) (k:Value) (es:List MapEntry):Option (Option Nat):=
 if flat k/\Je es/\(Bl P (Instr.checkKey empty 10000 kt k)).isSome then
  (Bl P (Instr.findKey kt k (bare es))).map fun r=>r.map (·.1)
 else none

def Na (z:Value) (ok:Bool) (es:List MapEntry):Option Nat->Option Value
 |some i=>(es[i]?).map fun x=>if ok then .tuple #[x.val,.bool true]else x.val
 |none=>some (if ok then .tuple #[z,.bool false]else z)
def DV (P:Program) (kt:TypeId) (z:Value) (ok:Bool) (k:Value) (h:H):Value->Option Value
 | .map (some r)=>match h.get r with
   |some (.map es _)=>(F0 P es.isEmpty kt k es).bind (Na z ok es)
   |_=>none
 |.map none=>(F0 P true kt k []).bind (Na z ok [])
 |_=>none

def Oy (r c:Nat) (es:List MapEntry) (k v:Value) (h:H):Option Nat->Option H
 |some i=>(es[i]?).bind fun x=>if Instr.sameBits 10000 x.key k then some (h.put r (.map (es.set i ⟨k,v,x.born⟩) c))else none
 |none=>some (h.put r (.map (es++[⟨k,v,c⟩]) (c+1)))
def Pm (P:Program) (lo:Nat) (kt:TypeId) (k v:Value) (h:H):Value->Option H
 | .map (some r)=>if lo<=r then(match h.get r with
   |some (.map es c)=>(F0 P false kt k es).bind (Oy r c es k v h)
   |_=>none)else none
 |_=>none
def Jv (P:Program) (lo:Nat) (kt:TypeId) (k:Value) (h:H):Value->Option H
 | .map (some r)=>if lo<=r then(match h.get r with
   |some (.map es c)=>(F0 P es.isEmpty kt k es).map fun o=>match o with|some i=>h.put r (.map (es.eraseIdx i) c)|none=>h
   |_=>none)else none
 |_=>none

def Kw (Br:Nat) (h:H):Value->R
 | .map (some r)=>match h.get r with
   |some (.map _ c)=>some (.pointer (some ⟨Br,0,none⟩),h.put Br (.iter r c [] c))
   |_=>none
 |_=>none
def QW (Br:Nat) (h:H):Value->R
 |.string s=>some (.pointer (some ⟨Br,0,none⟩),h.put Br (.Oc s 0))
 |_=>none
def Pl (lo:Nat) (h:H):Value->R
 | .pointer (some ⟨r,0,none⟩)=>if lo<=r then(match h.get r with
   |some (.Oc s pos)=>if pos<s.size then some (.tuple ⟨[.bool true,.int .i64 (pos:Int),.int .i32 ((Utf8.decode s pos).1:Int)]⟩,h.put r (.Oc s (pos+(Utf8.decode s pos).2)))else some (.tuple ⟨[.bool false]⟩,h)
   |_=>none)else none
 |_=>none
def fH (s:Nat) (es:List MapEntry):Option Value:=(es.find? fun e=>e.born==s).map fun e=>.tuple #[e.key,e.val]
def fJ (h:H):BQ->Option Value
 | .iter m _ seen c0=>seen.getLast?.bind fun s=>match h.get m with
   |some (.map es c)=>if c=c0 then fH s es else none
   |_=>none
 |_=>none
def RD (h:H):Value->Option Value
 |.pointer (some ⟨r,0,none⟩)=>(h.get r).bind (fJ h)
 |_=>none
mutual
def wj:Value->Value->Bool
 |.int k a,.int k' b=>decide (k=k'/\a=b)
 |.bool a,.bool b=>decide (a=b)
 |.string a,.string b=>decide (a=b)&&(a==b)
 |.agg ⟨a⟩,.agg ⟨b⟩=>eqL a b
 |_,_=>false
def eqL:List Value->List Value->Bool
 |[],[]=>true
 |a::l,b::m=>wj a b&&eqL l m
 |_,_=>false
end
def dM:Value->Bool
 |.string a=>a==a
 |_=>true
def VY (P:Program) (kt:TypeId) (k:Value):Bool:=dM k&&(match Bl P (Op.equal kt k k)with|some true=>true|_=>false)
def OA (P:Program) (kt:TypeId) (r c:Nat) (z:Value) (es:List MapEntry) (k:Value) (h:H):Option Nat->R
 |some i=>(es[i]?).bind fun x=>if(wj x.key k&&Instr.sameBits 10000 x.key k)=true then some (.tuple #[x.val,.int .i64 x.born],h.put r (.map es c))else none
 |none=>if VY P kt k=true then some (.tuple #[z,.int .i64 c],h.put r (.map (es++[⟨k,z,c⟩]) (c+1)))else none
def Kx (P:Program) (lo:Nat) (kt:TypeId) (z k:Value) (h:H):Value->R
 | .map (some r)=>if lo<=r then(match h.get r with
   |some (.map es c)=>(F0 P false kt k es).bind (OA P kt r c z es k h)
   |_=>none)else none
 |_=>none
def Y5 (r c:Nat) (es:List MapEntry) (v:Value) (h:H):Option Nat->Option H
 |some i=>(es[i]?).map fun x=>h.put r (.map (es.set i ⟨x.key,v,x.born⟩) c)
 |none=>none
def RB (lo:Nat) (s v:Value) (h:H):Value->Option H
 | .map (some r)=>if lo<=r then(match h.get r,s with
   |some (.map es c),.int .i64 n=>Y5 r c es v h (es.findIdx? fun e=>(e.born:Int)==n)
   |_,_=>none)else none
 |_=>none

def kT:Value->Option Value
 |.slice _ n _=>some (.int .i64 n)
 |_=>none
def VA:Value->Option Value
 |.string s=>some (.int .i64 s.size)
 |_=>none
def N6 (h:H):Value->Option Value
 | .map (some r)=>match h.get r with
   |some (.map es _)=>some (.int .i64 es.length)
   |_=>none
 |.map none=>some (.int .i64 0)
 |_=>none
def wO:Value->Option Value
 |.slice none _ c=>some (.int .i64 c)
 | .slice (some a) _ c=>if far<=c then none else match a.spot with
   |none=>some (.int .i64 c)
   |some _=>if c%2=1 then some (.int .i64 (c / 2:Nat))else none
 |_=>none

def keep (h:H):Option Value->R:=fun o=>o.map fun v=>(v,h)
def KU (ts:Ts) (o:Option BH):Option Value:=o.map (ev ts)

def C6 (P:Program) (lo Br:Nat) (ts:Ts) (h:H):B9->R
 |.mv x=>some (ev ts x,h)
 |.pick c a b=>keep h (Ul (ev ts a) (ev ts b) (ev ts c))
 |.alloc z e=>Ka Br e z h
 |.box x e=>Ka Br e (Bf (ev ts x)) h
 |.build z ps=>keep h ((Hl ts z ps).map fun l=>.agg ⟨l⟩)
 |.BF z ps len e=>(Hl ts z ps).map fun cs=>(.slice (some ⟨Br,0,none⟩) len len,h.put Br (.cells cs e))
 |.Af a=>keep h (JR h (ev ts a))
 |.Az n a=>keep h (JQ n h (ev ts a))
 |.store n a x=>Kv lo n (Bf (ev ts x)) h (ev ts a)
 |.BP x=>keep h (Ry (ev ts x))
 |.int op x y=>keep h (kV op (ev ts x) (ev ts y))
 |.EV q x y=>keep h (Qj q (ev ts x) (ev ts y))
 |.not x=>keep h (gJ (ev ts x))
 |.neg x=>keep h (qX (ev ts x))
 |.conv k x=>keep h (dD k (ev ts x))
 |.Il m x y=>keep h (Um m (ev ts x) (ev ts y))
 |.pure o=>keep h (Ib P ts o)
 |.cmp sl ne x y o=>keep h (qY P sl ne ts x y o)
 |.Wl t x=>some (.iface t (ev ts x),h)
 |.Hf fn fs cs=>some (.func fn ⟨fs.map (ev ts)⟩ ⟨cs.map (ev ts)⟩,h)
 |.LO=>some (.map (some Br),h.put Br (.map [] 0))
 |.FP z b e l c=>JY Br z b e h (C9 (ev ts l)) (C9 (ev ts c))
 |.Ls n sz x l hi m=>keep h (Ls n sz (KU ts l) (KU ts hi) (KU ts m) (ev ts x))
 |.HL sz x l hi m=>keep h (HL sz (KU ts l) (KU ts hi) (KU ts m) (ev ts x))
 |.Ai off x=>keep h (RA off (ev ts x))
 |.field1 off x=>keep h (N7 off (ev ts x))
 |.Tg off n x=>keep h (QX off n (ev ts x))
 |.Cc n sz x i=>keep h (Rz n sz (ev ts i) (ev ts x))
 |.Bb sz x i=>keep h (Xx sz (ev ts i) (ev ts x))
 |.tu n x i=>keep h (kU n (ev ts i) (ev ts x))
 |.jn n sz x i=>keep h (dB n sz (ev ts i) (ev ts x))
 |.extract x i=>keep h (Ll i (ev ts x))
 |.rG t z ok x=>keep h (kS t z ok (ev ts x))
 |.b2s x=>keep h (kW h (ev ts x))
 |.Z2 t x=>keep h (Vz P t (ev ts x))
 |.lookup kt z ok m k=>keep h (DV P kt z ok (ev ts k) h (ev ts m))
 |.Ig kt m k v=>(Pm P lo kt (ev ts k) (ev ts v) h (ev ts m)).map fun h'=>(undef,h')
 |.len x=>keep h (kT (ev ts x))
 |.bf x=>keep h (VA (ev ts x))
 |.NC x=>keep h (N6 h (ev ts x))
 |.cap x=>keep h (wO (ev ts x))
 |.append e sz b s x=>EE lo Br e sz b (ev ts s) (ev ts x) h
 |.copy sz d s=>N8 lo sz (ev ts d) (ev ts s) h
 |.qP z x=>ZU lo z (ev ts x) h
 |.dead=>none
 |.delete kt m k=>(Jv P lo kt (ev ts k) h (ev ts m)).map fun h'=>(.tuple #[],h')
 |.GI m=>Kw Br h (ev ts m)
 |.Nr x=>QW Br h (ev ts x)
 |.M1 x=>Pl lo h (ev ts x)
 |.entry x=>keep h (RD h (ev ts x))
 |.H4 kt z m k=>Kx P lo kt z (ev ts k) h (ev ts m)
 |.Mc m s v=>(RB lo (ev ts s) (ev ts v) h (ev ts m)).map fun h'=>(undef,h')

def B9.fresh:B9->Bool
 |.alloc _ _|.box _ _|.BF _ _ _ _|.LO|.FP _ _ _ _ _|.append _ _ _ _ _|.GI _|.Nr _=>true
 |_=>false
def B9.light:B9->Bool
 |.Af _|.Az _ _|.store _ _ _|.lookup _ _ _ _ _|.Ig _ _ _ _|.NC _|.b2s _|.append _ _ _ _ _|.copy _ _ _|.qP _ _|.delete _ _ _|.GI _|.Nr _|.M1 _|.entry _|.H4 _ _ _ _|.Mc _ _ _=>false
 |_=>true

def CN (ts:Ts):Option (Nat × Bool)->Bool
 |none=>true
 |some (j,want)=>match ts j with|.bool b=>b==want|_=>false
def G0 (ts:Ts) (v:Value):Option Nat->Ts
 |some d=>JU ts d v
 |none=>ts

end AE

/- Which rows an operation looks at, and which one it turns. -/
namespace AE
open Go

def H.upd (h:H):Option (Nat × BQ)->H
 |none=>h
 |some p=>h.put p.1 p.2

def A9:Value->List Nat
 |.pointer (some a)=>[a.block]
 |.slice (some a) _ c=>if far<=c then[]else[a.block]
 |.map (some r)=>[r]
 |_=>[]

def Jg:Value->Bool
 |.slice (some a) n c=>if far<=c then true else match a.spot with|none=>Nat.beq n c|some _=>Nat.beq c (2*n+1)
 |_=>false
theorem beq_false {a b:Nat}(h:a≠b):Nat.beq a b=false:=by
 cases e:Nat.beq a b
 ·rfl
 ·exact absurd (Nat.eq_of_beq_eq_true e) h
def B9.wr (ts:Ts):B9->List Nat
 |.store _ a _=>A9 (ev ts a)
 |.append _ _ _ s _=>if Jg (ev ts s)=true then[]else A9 (ev ts s)
 |.copy _ d _=>A9 (ev ts d)
 |.qP _ x=>A9 (ev ts x)
 |.Ig _ m _ _=>A9 (ev ts m)
 |.delete _ m _=>A9 (ev ts m)
 |.H4 _ _ m _=>A9 (ev ts m)
 |.Mc m _ _=>A9 (ev ts m)
 |.M1 x=>A9 (ev ts x)
 |_=>[]
def B9.touch (ts:Ts):B9->List Nat
 |.Af a|.Az _ a=>A9 (ev ts a)
 |.store _ a _=>A9 (ev ts a)
 |.lookup _ _ _ m _=>A9 (ev ts m)
 |.NC x=>A9 (ev ts x)
 |.b2s x=>A9 (ev ts x)
 |.append _ _ _ s x=>A9 (ev ts s)++A9 (ev ts x)
 |.copy _ d s=>A9 (ev ts d)++A9 (ev ts s)
 |.qP _ x=>A9 (ev ts x)
 |.Ig _ m _ _=>A9 (ev ts m)
 |.delete _ m _=>A9 (ev ts m)
 |.H4 _ _ m _=>A9 (ev ts m)
 |.Mc m _ _=>A9 (ev ts m)
 |.GI m=>A9 (ev ts m)
 |.M1 x=>A9 (ev ts x)
 |_=>[]
def B9.UL:B9->Bool
 |.entry _=>false
 |_=>true

def Loc (lo Br:Nat) (wr touch:List Nat) (h:H) (f:H->R) (v:Value) (h':H):Prop:=
 ∃u,h'=h.upd u/\(∀r row,u=some (r,row)->(r=Br\/(lo<=r/\r∈wr/\h.get r≠none)))/\∀g:H,(∀r∈touch,h.get r≠none->g.get r=h.get r)->f g=some (v,g.upd u)

theorem Loc.keep {lo Br:Nat}{wr touch:List Nat}{h h':H}{o:H->Option Value}{v:Value}(hk:keep h (o h)=some (v,h')) (ho:o h=some v->∀g:H,(∀r∈touch,h.get r≠none->g.get r=h.get r)->o g=o h):Loc lo Br wr touch h (fun g=>keep g (o g)) v h':=by
 simp only[AE.keep,Option.map_eq_some_iff,Prod.mk.injEq]at hk
 obtain⟨v',hv,rfl,rfl⟩:=hk
 refine⟨none,rfl,by simp,fun g hg=>?_⟩
 simp[AE.keep,ho hv g hg,hv,H.upd]
theorem Loc.flat {lo Br:Nat}{wr touch:List Nat}{h h':H}{o:Option Value}{v:Value}(hk:AE.keep h o=some (v,h')):Loc lo Br wr touch h (fun g=>AE.keep g o) v h':=
 Loc.keep (o:=fun _=>o) hk fun _ _ _=>rfl
theorem Loc.new {lo Br:Nat}{wr touch:List Nat}{h h':H}{v v':Value}{row:BQ}(hk:some (v',h.put Br row)=some (v,h')):Loc lo Br wr touch h (fun g=>some (v',g.put Br row)) v h':=by
 simp only[Option.some.injEq,Prod.mk.injEq]at hk
 obtain⟨rfl,rfl⟩:=hk
 exact⟨some (Br,row),rfl,fun r row' e=>.inl (by simp at e;exact e.1.symm),fun g _=>rfl⟩

theorem JF {h g:H}{a:Addr}{n:Nat}{l:List Value}(hl:h.Bu a n=some l) (e:h.get a.block≠none->g.get a.block=h.get a.block):g.Bu a n=some l:=by
 have:h.get a.block≠none:=fun e'=>by simp[H.Bu,e']at hl
 rw[<-hl];simp[H.Bu,e this]
theorem Ij {h h':H}{lo:Nat}{a:Addr}{vs:List Value}(hs:h.En lo a vs=some h'):∃row,lo<=a.block/\h'=h.put a.block row/\h.get a.block≠none/\∀g:H,(h.get a.block≠none->g.get a.block=h.get a.block)->g.En lo a vs=some (g.put a.block row):=by
 unfold H.En at hs
 split at hs
 ·rename_i hc
  simp only[Option.bind_eq_some_iff,Option.map_eq_some_iff]at hs
  obtain⟨row,hr,row',hr',rfl⟩:=hs
  refine⟨row',hc.1,rfl,by simp[hr],fun g hg=>?_⟩
  unfold H.En
  rw[if_pos hc,hg (by simp[hr]),hr]
  simp[hr']
 ·simp at hs

theorem K0 {h g:H}{sz n:Nat}{v:Value}{l:List Value}(hl:Dv h sz n v=some l) (e:∀r∈A9 v,h.get r≠none->g.get r=h.get r):Dv g sz n v=some l:=by
 unfold Dv at hl
 split at hl
 ·split at hl
  ·rename_i hf
   simp only[Dv]
   rw[if_pos hf]
   exact hl
  ·rename_i hf
   simp only[Dv]
   rw[if_neg hf]
   exact JF hl (e _ (by simp[A9,hf]))
 all_goals
  simp only[Dv]
  exact hl

theorem Nk {lo Br:Nat}{e:TypeId}{sz bytes:Nat}{a:Addr}{len cap c n:Nat}{nc:List Value}{h h':H}{v:Value}{wr touch:List Nat}(hw:len+n<=c->a.block∈wr) (ht:a.block∈touch)
 (ha:G8 lo Br e sz bytes a len cap c n nc h=some (v,h')):Loc lo Br wr touch h (fun g=>G8 lo Br e sz bytes a len cap c n nc g) v h':=by
 unfold G8 at ha
 split at ha
 ·rename_i hf
  simp only[Option.map_eq_some_iff,Prod.mk.injEq]at ha
  obtain⟨h1,hs,rfl,rfl⟩:=ha
  obtain⟨row,hlo,rfl,hne,hg⟩:=Ij hs
  refine⟨some (a.block,row),rfl,fun r row' er=>.inr (by simp at er;rw[<-er.1];exact⟨hlo,hw hf,hne⟩),fun g hgg=>?_⟩
  simp only[G8,if_pos hf]
  rw[hg g (hgg _ ht)];rfl
 ·rename_i hf
  split at ha
  ·rename_i hs
   simp only[Option.bind_eq_some_iff]at ha
   obtain⟨oc,ho,ha⟩:=ha
   simp only[Ef,Option.some.injEq,Prod.mk.injEq]at ha
   obtain⟨rfl,rfl⟩:=ha
   refine⟨some (Br,_),rfl,fun r row' er=>.inl (by simp at er;exact er.1.symm),fun g hgg=>?_⟩
   simp only[G8]
   rw[if_neg hf,if_pos hs,JF ho (hgg _ ht)];rfl
  ·simp at ha

theorem Vt {P:Program}{lo Br:Nat}{ts:Ts}{h h':H}{v:Value}{ao:B9}(hne:ao.UL=true) (ha:C6 P lo Br ts h ao=some (v,h')):
 Loc lo Br (ao.wr ts) (ao.touch ts) h (fun g=>C6 P lo Br ts g ao) v h':=by
 cases ao
 case entry x=>simp[B9.UL]at hne
 case GI m=>
  simp only[C6,B9.wr,B9.touch]at ha⊢
  unfold Kw at ha
  split at ha
  ·rename_i r he
   split at ha
   ·rename_i es c hg
    simp only[Option.some.injEq,Prod.mk.injEq]at ha
    obtain⟨rfl,rfl⟩:=ha
    refine⟨some (Br,_),rfl,fun r' row' er=>.inl (by simp at er;exact er.1.symm),fun g hgg=>?_⟩
    rw[he]at hgg⊢
    simp only[Kw,hgg r (by simp[A9]) (by simp[hg]),hg,H.upd]
   ·simp at ha
  ·simp at ha
 case Nr x=>
  simp only[C6,B9.wr,B9.touch]at ha⊢
  unfold QW at ha
  split at ha
  ·rename_i s he
   simp only[Option.some.injEq,Prod.mk.injEq]at ha
   obtain⟨rfl,rfl⟩:=ha
   refine⟨some (Br,_),rfl,fun r' row' er=>.inl (by simp at er;exact er.1.symm),fun g hgg=>?_⟩
   rw[he]
   rfl
  ·simp at ha
 case M1 x=>
  simp only[C6,B9.wr,B9.touch]at ha⊢
  unfold Pl at ha
  split at ha
  ·rename_i r he
   split at ha
   ·rename_i hlo
    split at ha
    ·rename_i s pos hg
     split at ha
     ·rename_i hp
      simp only[Option.some.injEq,Prod.mk.injEq]at ha
      obtain⟨rfl,rfl⟩:=ha
      refine⟨some (r,_),rfl,fun r' row' er=>.inr ?_,fun g hgg=>?_⟩
      ·simp at er;rw[<-er.1,he];exact⟨hlo,by simp[A9],by simp[hg]⟩
      ·rw[he]at hgg⊢
       simp only[Pl,if_pos hlo,hgg r (by simp[A9]) (by simp[hg]),hg,if_pos hp,H.upd]
     ·rename_i hp
      simp only[Option.some.injEq,Prod.mk.injEq]at ha
      obtain⟨rfl,rfl⟩:=ha
      refine⟨none,rfl,fun r' row' er=>by simp at er,fun g hgg=>?_⟩
      rw[he]at hgg⊢
      simp only[Pl,if_pos hlo,hgg r (by simp[A9]) (by simp[hg]),hg,if_neg hp,H.upd]
    ·simp at ha
   ·simp at ha
  ·simp at ha
 case H4 kt z m k=>
  simp only[C6,B9.wr,B9.touch]at ha⊢
  unfold Kx at ha
  split at ha
  ·rename_i r he
   split at ha
   ·rename_i hlo
    split at ha
    ·rename_i es c hg
     simp only[Option.bind_eq_some_iff]at ha
     obtain⟨q,hq,ha⟩:=ha
     have:∃row,h'=h.put r row/\∀g:H,OA P kt r c z es (ev ts k) g q=some (v,g.put r row):=by
      unfold OA at ha
      split at ha
      ·simp only[Option.bind_eq_some_iff]at ha
       obtain⟨x,hx,ha⟩:=ha
       split at ha
       ·rename_i hb;simp only[Option.some.injEq,Prod.mk.injEq]at ha;exact⟨_,ha.2.symm,fun g=>by simp only[OA,hx,Option.bind_some,if_pos hb,ha.1]⟩
       ·simp at ha
      ·split at ha
       ·rename_i hb;simp only[Option.some.injEq,Prod.mk.injEq]at ha;exact⟨_,ha.2.symm,fun g=>by simp only[OA,if_pos hb,ha.1]⟩
       ·simp at ha
     obtain⟨row,rfl,hm⟩:=this
     refine⟨some (r,row),rfl,fun r' row' er=>.inr ?_,fun g hgg=>?_⟩
     ·simp at er;rw[<-er.1,he];exact⟨hlo,by simp[A9],by simp[hg]⟩
     ·rw[he]at hgg⊢
      simp only[Kx,if_pos hlo,hgg r (by simp[A9]) (by simp[hg]),hg,hq,Option.bind_some,hm,H.upd]
    ·simp at ha
   ·simp at ha
  ·simp at ha
 case Mc m s v'=>
  simp only[C6,B9.wr,B9.touch,Option.map_eq_some_iff,Prod.mk.injEq]at ha⊢
  obtain⟨h1,ha,rfl,rfl⟩:=ha
  unfold RB at ha
  split at ha
  ·rename_i r he
   split at ha
   ·rename_i hlo
    split at ha
    ·rename_i es c n hg hs
     have:∃row,h1=h.put r row/\∀g:H,Y5 r c es (ev ts v') g (es.findIdx? fun e=>(e.born:Int)==n)=some (g.put r row):=by
      unfold Y5 at ha
      split at ha
      ·simp only[Option.map_eq_some_iff]at ha
       obtain⟨x,hx,ha⟩:=ha
       exact⟨_,ha.symm,fun g=>by simp[Y5, *]⟩
      ·simp at ha
     obtain⟨row,rfl,hm⟩:=this
     refine⟨some (r,row),rfl,fun r' row' er=>.inr ?_,fun g hgg=>?_⟩
     ·simp at er;rw[<-er.1,he];exact⟨hlo,by simp[A9],by simp[hg]⟩
     ·rw[he]at hgg⊢
      simp only[RB,if_pos hlo,hgg r (by simp[A9]) (by simp[hg]),hg,hs,hm,Option.map_some,H.upd]
    ·simp at ha
   ·simp at ha
  ·simp at ha
 case mv x=>exact Loc.flat (o:=some (ev ts x)) ha
 case Wl t x=>exact Loc.flat (o:=some (.iface t (ev ts x))) ha
 case Hf fn fs cs=>exact Loc.flat (o:=some (.func fn ⟨fs.map (ev ts)⟩ ⟨cs.map (ev ts)⟩)) ha
 case alloc z e=>exact Loc.new ha
 case box x e=>exact Loc.new ha
 case LO=>exact Loc.new ha
 case BF z ps len e=>
  simp only[C6]at ha⊢
  cases hf:Hl ts z ps with
  |none=>rw[hf]at ha;simp at ha
  |some cs=>rw[hf]at ha;exact Loc.new ha
 case FP z b e l c=>
  simp only[C6]at ha⊢
  unfold JY at ha
  split at ha
  ·rename_i l' c' hl hc
   split at ha
   ·rename_i hb
    simp only[hl,hc,JY,if_pos hb]
    exact Loc.new ha
   ·simp at ha
  ·simp at ha
 case Af a=>
  refine Loc.keep (o:=fun g=>JR g (ev ts a)) ha fun hv g hg=>?_
  simp only[B9.touch]at hg
  unfold JR at hv⊢
  split
  ·rename_i a' he
   rw[he]at hg hv
   simp only[hv]
   simp only[Option.bind_eq_some_iff]at hv
   obtain⟨l,hl,hv⟩:=hv
   rw[JF hl (hg _ (by simp[A9])),Option.bind_some,hv]
  ·rfl
 case Az n a=>
  refine Loc.keep (o:=fun g=>JQ n g (ev ts a)) ha fun hv g hg=>?_
  simp only[B9.touch]at hg
  unfold JQ at hv⊢
  split
  ·rename_i a' he
   rw[he]at hg hv
   simp only[hv]
   simp only[Option.map_eq_some_iff]at hv
   obtain⟨l,hl,hv⟩:=hv
   rw[JF hl (hg _ (by simp[A9])),Option.map_some,hv]
  ·rfl
 case store n a x=>
  simp only[C6,B9.wr,B9.touch]at ha⊢
  unfold Kv at ha
  split at ha
  ·rename_i a' he
   split at ha
   ·rename_i hl
    simp only[Option.map_eq_some_iff,Prod.mk.injEq]at ha
    obtain⟨h1,hs,rfl,rfl⟩:=ha
    obtain⟨row,hlo,rfl,hne,hg⟩:=Ij hs
    refine⟨some (a'.block,row),rfl,fun r row' er=>.inr ?_,fun g hgg=>?_⟩
    ·simp at er;rw[<-er.1,he];exact⟨hlo,by simp[A9],by first|exact hne|simp[hg]⟩
    ·rw[he]at hgg⊢
     simp only[Kv,if_pos hl]
     rw[hg g (hgg _ (by simp[A9]))];rfl
   ·simp at ha
  ·simp at ha
 case lookup kt z ok m k=>
  refine Loc.keep (o:=fun g=>DV P kt z ok (ev ts k) g (ev ts m)) ha fun hv g hg=>?_
  simp only[B9.touch]at hg
  unfold DV at hv⊢
  split
  ·rename_i r he
   rw[he]at hg hv
   have:h.get r≠none:=fun e=>by simp[e]at hv
   rw[hg _ (by simp[A9]) this]
  all_goals rfl
 case b2s x=>
  refine Loc.keep (o:=fun g=>kW g (ev ts x)) ha fun hv g hg=>?_
  simp only[B9.touch]at hg
  unfold kW at hv⊢
  split
  ·rename_i a n c he
   rw[he]at hg hv
   simp only[hv]
   simp only[Option.bind_eq_some_iff]at hv
   obtain⟨l,hl,hv⟩:=hv
   rw[K0 hl hg]
   exact hv
  ·rfl
 case NC x=>
  refine Loc.keep (o:=fun g=>N6 g (ev ts x)) ha fun hv g hg=>?_
  simp only[B9.touch]at hg
  unfold N6 at hv⊢
  split
  ·rename_i r he
   rw[he]at hg hv
   have:h.get r≠none:=fun e=>by simp[e]at hv
   rw[hg _ (by simp[A9]) this]
  all_goals rfl
 case Ig kt m k v'=>
  simp only[C6,B9.wr,B9.touch,Option.map_eq_some_iff,Prod.mk.injEq]at ha⊢
  obtain⟨h1,ha,rfl,rfl⟩:=ha
  unfold Pm at ha
  split at ha
  ·rename_i r he
   split at ha
   ·rename_i hlo
    split at ha
    ·rename_i es c hg
     simp only[Option.bind_eq_some_iff]at ha
     obtain⟨q,hq,ha⟩:=ha
     have:∃row,h1=h.put r row/\∀g:H,Oy r c es (ev ts k) (ev ts v') g q=some (g.put r row):=by
      unfold Oy at ha
      split at ha
      ·simp only[Option.bind_eq_some_iff]at ha
       obtain⟨x,hx,ha⟩:=ha
       split at ha
       ·rename_i hb;simp at ha;exact⟨_,ha.symm,fun g=>by simp[Oy,hx,hb]⟩
       ·simp at ha
      ·simp at ha;exact⟨_,ha.symm,fun g=>by simp[Oy]⟩
     obtain⟨row,rfl,hm⟩:=this
     refine⟨some (r,row),rfl,fun r' row' er=>.inr ?_,fun g hgg=>?_⟩
     ·simp at er;rw[<-er.1,he];exact⟨hlo,by simp[A9],by first|exact hne|simp[hg]⟩
     ·rw[he]at hgg⊢
      simp only[Pm,if_pos hlo,hgg r (by simp[A9]) (by simp[hg]),hg,hq,Option.bind_some,hm,Option.map_some,H.upd]
    ·simp at ha
   ·simp at ha
  ·simp at ha
 case delete kt m k=>
  simp only[C6,B9.wr,B9.touch,Option.map_eq_some_iff,Prod.mk.injEq]at ha⊢
  obtain⟨h1,ha,rfl,rfl⟩:=ha
  unfold Jv at ha
  split at ha
  ·rename_i r he
   split at ha
   ·rename_i hlo
    split at ha
    ·rename_i es c hg
     simp only[Option.map_eq_some_iff]at ha
     obtain⟨q,hq,ha⟩:=ha
     cases q with
     | none=>
       simp only at ha;subst ha
       refine⟨none,rfl,by simp,fun g hgg=>?_⟩
       rw[he]at hgg⊢
       simp only[Jv,if_pos hlo,hgg r (by simp[A9]) (by simp[hg]),hg,hq,Option.map_some,H.upd]
     | some i=>
       simp only at ha;subst ha
       refine⟨some (r,_),rfl,fun r' row' er=>.inr ?_,fun g hgg=>?_⟩
       ·simp at er;rw[<-er.1,he];exact⟨hlo,by simp[A9],by first|exact hne|simp[hg]⟩
       ·rw[he]at hgg⊢
        simp only[Jv,if_pos hlo,hgg r (by simp[A9]) (by simp[hg]),hg,hq,Option.map_some,H.upd]
    ·simp at ha
   ·simp at ha
  ·simp at ha
 case append e sz b s x=>
  simp only[C6,B9.wr,B9.touch]at ha⊢
  unfold EE at ha
  simp only[Option.bind_eq_some_iff]at ha
  obtain⟨n,hn,ha⟩:=ha
  split at ha
  ·rename_i hn0
   split at ha
   ·rename_i b0 l0 c0 he
    simp only[Option.some.injEq,Prod.mk.injEq]at ha
    obtain⟨rfl,rfl⟩:=ha
    refine⟨none,rfl,by simp,fun g hgg=>?_⟩
    simp only[EE,hn,Option.bind_some,if_pos hn0,he]
    rfl
   ·simp at ha
  ·rename_i hn0
   simp only[Option.bind_eq_some_iff]at ha
   obtain⟨nc,hnc,ha⟩:=ha
   have bH:∀g:H,(∀r∈A9 (ev ts s)++A9 (ev ts x),h.get r≠none->g.get r=h.get r)->Dv g sz n (ev ts x)=some nc:=fun g hg=>
    K0 hnc (fun r hr=>hg r (by simp[hr]))
   split at ha
   ·rename_i a len cap he
    split at ha
    ·rename_i hcf
     split at ha
     ·rename_i hcc
      simp only[Ef,Option.some.injEq,Prod.mk.injEq]at ha
      obtain⟨rfl,rfl⟩:=ha
      refine⟨some (Br,_),rfl,fun r row' er=>.inl (by simp at er;exact er.1.symm),fun g hgg=>?_⟩
      simp only[EE,hn,Option.bind_some,if_neg hn0,bH g hgg,he,if_pos hcf,if_pos hcc,Ef,H.upd]
     ·simp at ha
    rename_i hcf
    have main:Loc lo Br (if Jg (ev ts s)=true then[]else A9 (ev ts s)) (A9 (ev ts s)++A9 (ev ts x)) h (fun g=>KY lo Br e sz b a len cap n nc g) v h':=by
     have hm0:a.block∈A9 (ev ts s):=by rw[he];simp[A9,hcf]
     have hm1:Jg (ev ts s)=false->a.block∈(if Jg (ev ts s)=true then[]else A9 (ev ts s)):=fun hf=>by rw[hf,if_neg (by simp)];exact hm0
     have hm2:a.block∈A9 (ev ts s)++A9 (ev ts x):=by simp[hm0]
     unfold KY at ha⊢
     split at ha
     ·rename_i hsp
      exact Nk (fun hle=>hm1 (by rw[he];simp only[Jg,if_neg hcf,hsp];exact beq_false (by omega))) hm2 ha
     ·split at ha
      ·rename_i g0 hsp hodd
       simp only[if_pos hodd]
       exact Nk (fun hle=>hm1 (by rw[he];simp only[Jg,if_neg hcf,hsp];exact beq_false (by omega))) hm2 ha
      ·rename_i g0 hsp hodd
       simp only[Option.bind_eq_some_iff]at ha
       obtain⟨row,hr,ha⟩:=ha
       unfold Pf at ha
       split at ha
       ·rename_i c e' sz' lens valid
        split at ha
        ·rename_i hb
         simp only[Option.some.injEq,Prod.mk.injEq]at ha
         obtain⟨rfl,rfl⟩:=ha
         refine⟨some (a.block,_),rfl,fun r' row' er=>.inr ?_,fun g hgg=>?_⟩
         ·simp at er;rw[<-er.1];exact⟨hb.1,hm1 (by rw[he];simp only[Jg,if_neg hcf,hsp];exact beq_false (by have:=hb.2.2.2.1;omega)),by simp[hr]⟩
         ·simp only[if_neg hodd,hgg _ hm2 (by simp[hr]),hr,Option.bind_some,Pf,if_pos hb,H.upd]
        ·rename_i hnb
         split at ha
         ·rename_i hb
          simp only[Option.some.injEq,Prod.mk.injEq]at ha
          obtain⟨rfl,rfl⟩:=ha
          refine⟨some (a.block,_),rfl,fun r' row' er=>.inr ?_,fun g hgg=>?_⟩
          ·simp at er;rw[<-er.1];exact⟨hb.1,hm1 (by rw[he];simp only[Jg,if_neg hcf,hsp];exact beq_false (by have:=hb.2.2.2.1;omega)),by simp[hr]⟩
          ·simp only[if_neg hodd,hgg _ hm2 (by simp[hr]),hr,Option.bind_some,Pf,if_neg hnb,if_pos hb,H.upd]
         ·simp at ha
       ·simp at ha
    obtain⟨u,h1,h2,h3⟩:=main
    refine⟨u,h1,h2,fun g hg=>?_⟩
    simp only[EE,hn,Option.bind_some,if_neg hn0,bH g hg,he,if_neg hcf]
    exact h3 g hg
   ·rename_i he
    split at ha
    ·rename_i hsm
     simp only[Ef,Option.some.injEq,Prod.mk.injEq]at ha
     obtain⟨rfl,rfl⟩:=ha
     refine⟨some (Br,_),rfl,fun r row' er=>.inl (by simp at er;exact er.1.symm),fun g hgg=>?_⟩
     simp only[EE,hn,Option.bind_some,if_neg hn0,bH g hgg,he,if_pos hsm,Ef,H.upd]
    ·simp at ha
   ·simp at ha
 case copy sz d s=>
  simp only[C6,B9.wr,B9.touch]at ha⊢
  unfold N8 at ha
  split at ha
  ·rename_i base len cap he
   split at ha
   ·simp at ha
   rename_i hcf
   simp only[Option.bind_eq_some_iff]at ha
   obtain⟨k,hk,ha⟩:=ha
   obtain⟨nc,hnc,ha⟩:=ha
   have bH:∀g:H,(∀r∈A9 (ev ts d)++A9 (ev ts s),h.get r≠none->g.get r=h.get r)->Dv g sz (if k<=len then k else len) (ev ts s)=some nc:=fun g hg=>
    K0 hnc (fun r hr=>hg r (by simp[hr]))
   cases base with
   | none=>
     simp only[Option.some.injEq,Prod.mk.injEq]at ha
     obtain⟨rfl,rfl⟩:=ha
     refine⟨none,rfl,by simp,fun g hgg=>?_⟩
     simp only[N8,he,if_neg hcf,hk,Option.bind_some,bH g hgg,H.upd]
   | some a=>
     simp only[Option.map_eq_some_iff,Prod.mk.injEq]at ha
     obtain⟨h1,hs,rfl,rfl⟩:=ha
     by_cases h0:(if k<=len then k else len)=0
     ·rw[if_pos h0]at hs
      simp at hs;subst hs
      refine⟨none,rfl,by simp,fun g hgg=>?_⟩
      simp only[N8,he,if_neg hcf,hk,Option.bind_some,bH g hgg,if_pos h0,Option.map_some,H.upd]
     ·rw[if_neg h0]at hs
      obtain⟨row,hlo,rfl,hne,hg⟩:=Ij hs
      refine⟨some (a.block,row),rfl,fun r' row' er=>.inr ?_,fun g hgg=>?_⟩
      ·simp at er;rw[<-er.1,he];exact⟨hlo,by simp[A9,hcf],by first|exact hne|simp[hg]⟩
      ·simp only[N8,he,if_neg hcf,hk,Option.bind_some,bH g hgg,if_neg h0]
       rw[hg g (hgg _ (by rw[he];simp[A9,hcf]))];rfl
  ·simp at ha
 case qP z x=>
  simp only[C6,B9.wr,B9.touch]at ha⊢
  unfold ZU at ha
  split at ha
  ·rename_i a n cap he
   split at ha
   ·rename_i h0
    simp only[Option.some.injEq,Prod.mk.injEq]at ha
    obtain⟨rfl,rfl⟩:=ha
    refine⟨none,rfl,by simp,fun g hgg=>?_⟩
    simp only[ZU,he,if_pos h0,H.upd]
   ·rename_i h0
    split at ha
    ·simp at ha
    ·rename_i hcf
     simp only[Option.map_eq_some_iff,Prod.mk.injEq]at ha
     obtain⟨h1,hs,rfl,rfl⟩:=ha
     obtain⟨row,hlo,rfl,hne,hg⟩:=Ij hs
     refine⟨some (a.block,row),rfl,fun r' row' er=>.inr ?_,fun g hgg=>?_⟩
     ·simp at er;rw[<-er.1,he];exact⟨hlo,by simp[A9,hcf],hne⟩
     ·simp only[ZU,he,if_neg hcf,if_neg h0]
      rw[hg g (hgg _ (by rw[he];simp[A9,hcf]))];rfl
  ·rename_i he
   simp only[Option.some.injEq,Prod.mk.injEq]at ha
   obtain⟨rfl,rfl⟩:=ha
   refine⟨none,rfl,by simp,fun g hgg=>?_⟩
   simp only[ZU,he,H.upd]
  ·simp at ha
 case dead=>simp[C6]at ha
 all_goals exact Loc.flat ha

end AE

/- Which temporaries an operation reads. -/
namespace AE
open Go

def BH.rd:BH->List Nat
 |.t n=>[n]
 |.c _=>[]
 |.m n _=>[n]
def xu:List BH->List Nat
 |[]=>[]
 |x::xs=>x.rd++xu xs
def xq:Option BH->List Nat
 |none=>[]
 |some x=>x.rd
def rdP:List (Nat × Nat × BH)->List Nat
 |[]=>[]
 |p::ps=>p.2.2.rd++rdP ps
def rdR (xs:List Operand):List Nat:=xs.filterMap fun x=>match x with|.tmp t=>some t|_=>none

def B9.rd:B9->List Nat
 |.mv x=>x.rd
 |.pick c a b=>c.rd++a.rd++b.rd
 |.alloc _ _=>[]
 |.box x _=>x.rd
 |.build _ ps=>rdP ps
 |.BF _ ps _ _=>rdP ps
 |.Af a=>a.rd
 |.Az _ a=>a.rd
 |.store _ a x=>a.rd++x.rd
 |.BP x=>x.rd
 |.int _ x y=>x.rd++y.rd
 |.EV _ x y=>x.rd++y.rd
 |.not x=>x.rd
 |.neg x=>x.rd
 |.conv _ x=>x.rd
 |.Il _ x y=>x.rd++y.rd
 |.pure o=>rdR o.op.operands.toList
 |.cmp _ _ x y o=>x.rd++y.rd++rdR o.op.operands.toList
 |.Wl _ x=>x.rd
 |.Hf _ fs cs=>xu fs++xu cs
 |.LO=>[]
 |.FP _ _ _ l c=>l.rd++c.rd
 |.Ls _ _ x l hi m=>x.rd++xq l++xq hi++xq m
 |.HL _ x l hi m=>x.rd++xq l++xq hi++xq m
 |.Ai _ x=>x.rd
 |.field1 _ x=>x.rd
 |.Tg _ _ x=>x.rd
 |.Cc _ _ x i=>x.rd++i.rd
 |.Bb _ x i=>x.rd++i.rd
 |.tu _ x i=>x.rd++i.rd
 |.jn _ _ x i=>x.rd++i.rd
 |.extract x _=>x.rd
 |.rG _ _ _ x=>x.rd
 |.Z2 _ x=>x.rd
 |.lookup _ _ _ m k=>m.rd++k.rd
 |.Ig _ m k v=>m.rd++k.rd++v.rd
 |.len x=>x.rd
 |.bf x=>x.rd
 |.NC x=>x.rd
 |.b2s x=>x.rd
 |.cap x=>x.rd
 |.append _ _ _ s x=>s.rd++x.rd
 |.copy _ d s=>d.rd++s.rd
 |.qP _ x=>x.rd
 |.dead=>[]
 |.delete _ m k=>m.rd++k.rd
 |.GI m=>m.rd
 |.Nr x=>x.rd
 |.M1 x=>x.rd
 |.entry x=>x.rd
 |.H4 _ _ m k=>m.rd++k.rd
 |.Mc m s v=>m.rd++s.rd++v.rd

def FV (o:Oper):Bool:=match o.op with|.select _ _=>false|_=>true
def B9.FV:B9->Bool
 |.pure o=>AE.FV o
 |.cmp _ _ _ _ o=>AE.FV o
 |.entry _=>false
 |_=>true
theorem B9.mI {ao:B9}(h:ao.FV=true):ao.UL=true:=by cases ao<;>first|rfl|(simp[B9.FV]at h)

variable {ts ts':Ts}
theorem FY {x:BH}(e:∀t∈x.rd,ts' t=ts t):ev ts' x=ev ts x:=by
 cases x with
 |t n=>exact e n (by simp[BH.rd])
 |c v=>rfl
 |m n nm=>simp only[ev];rw[e n (by simp[BH.rd])]
theorem P2 {x:Option BH}(e:∀t∈xq x,ts' t=ts t):KU ts' x=KU ts x:=by
 cases x with
 |none=>rfl
 |some x=>simp[KU,FY (x:=x) e]
theorem WX:∀{xs:List BH},(∀t∈xu xs,ts' t=ts t)->xs.map (ev ts')=xs.map (ev ts)
 |[],_=>rfl
 | x::xs,e=>by
   simp only[xu,List.mem_append]at e
   rw[List.map_cons,List.map_cons,FY (fun t h=>e t (.inl h)),WX (fun t h=>e t (.inr h))]
theorem TH:∀{ps:List (Nat × Nat × BH)}(z:List Value),(∀t∈rdP ps,ts' t=ts t)->Hl ts' z ps=Hl ts z ps
 |[],z,_=>rfl
 | (off,size,x)::ps,z,e=>by
   simp only[rdP,List.mem_append]at e
   simp only[Hl,FY (x:=x) (fun t h=>e t (.inl h))]
   split
   ·exact TH _ (fun t h=>e t (.inr h))
   ·rfl
theorem Abk {xs:List Operand}(e:∀t∈rdR xs,ts' t=ts t):∀x∈xs,Ud ts' x=Ud ts x:=by
 intro x hx
 cases x with
 |tmp t=>exact e t (by simp only[rdR,List.mem_filterMap];exact⟨_,hx,rfl⟩)
 |_=>rfl
theorem Xw {P:Program}{o:Oper}(hs:FV o=true) (e:∀t∈rdR o.op.operands.toList,ts' t=ts t):Ib P ts' o=Ib P ts o:=by
 have h1:=Abk e
 have h2:execOp (Ud ts') o=execOp (Ud ts) o:=by
  refine execOp_congr o (fun cs b h=>?_) (fun x hx=>h1 x (by simpa using hx))
  simp[FV,h]at hs
 have h3:(o.op.operands.toList.all fun x=>flat (Ud ts' x))=o.op.operands.toList.all fun x=>flat (Ud ts x):=by
  rw[Bool.eq_iff_iff]
  simp only[List.all_eq_true]
  constructor<;>intro k x hx
  ·rw[<-h1 x hx];exact k x hx
  ·rw[h1 x hx];exact k x hx
 simp only[Ib,h2,h3]

theorem Ach {P:Program}{lo Br:Nat}{h:H}{ao:B9}(hs:ao.FV=true) (e:∀t∈ao.rd,ts' t=ts t):C6 P lo Br ts' h ao=C6 P lo Br ts h ao:=by
 cases ao<;>simp only[B9.rd,List.mem_append]at e
 case build z ps=>simp only[C6,TH z e]
 case BF z ps l t=>simp only[C6,TH z e]
 case pure o=>simp only[C6,Xw (P:=P) hs e]
 case cmp sl ne x y o=>
  simp only[C6,qY,FY (x:=x) (fun t h=>e t (.inl (.inl h))),FY (x:=y) (fun t h=>e t (.inl (.inr h))),Xw (P:=P) hs (fun t h=>e t (.inr h))]
 case Hf fn fs cs=>simp only[C6,WX (xs:=fs) (fun t h=>e t (.inl h)),WX (xs:=cs) (fun t h=>e t (.inr h))]
 case Ls n sz x l hi m=>
  simp only[C6,FY (x:=x) (fun t h=>e t (.inl (.inl (.inl h)))),P2 (x:=l) (fun t h=>e t (.inl (.inl (.inr h)))),P2 (x:=hi) (fun t h=>e t (.inl (.inr h))),P2 (x:=m) (fun t h=>e t (.inr h))]
 case HL sz x l hi m=>
  simp only[C6,FY (x:=x) (fun t h=>e t (.inl (.inl (.inl h)))),P2 (x:=l) (fun t h=>e t (.inl (.inl (.inr h)))),P2 (x:=hi) (fun t h=>e t (.inl (.inr h))),P2 (x:=m) (fun t h=>e t (.inr h))]
 case pick c a b=>simp only[C6,FY (x:=c) (fun t h=>e t (.inl (.inl h))),FY (x:=a) (fun t h=>e t (.inl (.inr h))),FY (x:=b) (fun t h=>e t (.inr h))]
 case Ig k m c b=>simp only[C6,FY (x:=m) (fun t h=>e t (.inl (.inl h))),FY (x:=c) (fun t h=>e t (.inl (.inr h))),FY (x:=b) (fun t h=>e t (.inr h))]
 case Mc m s b=>simp only[C6,FY (x:=m) (fun t h=>e t (.inl (.inl h))),FY (x:=s) (fun t h=>e t (.inl (.inr h))),FY (x:=b) (fun t h=>e t (.inr h))]
 case alloc=>rfl
 case LO=>rfl
 case dead=>rfl
 all_goals first
  |(rename_i x;simp only[C6,FY (x:=x) e];done)
  |(rename_i x _;simp only[C6,FY (x:=x) e];done)
  |(rename_i x y;simp only[C6,FY (x:=x) (fun t h=>e t (.inl h)),FY (x:=y) (fun t h=>e t (.inr h))];done)

end AE

/- From the loaded operations to the evaluator's: which one stands for which. -/
namespace AE
open Go

def Dc (P:Program) (t:TypeId):Option Bool:=
 match P.underlying t with
 |some (.struct _)=>some true
 |some (.array _ _)=>some true
 |some _=>some false
 |none=>none
def sizeT (P:Program) (t:TypeId):Option Nat:=(P.info? t).map (·.size)
def vr (P:Program) (t:TypeId):Option Value:=(P.info? t).bind (·.zero)
def Fx (P:Program) (t:TypeId):Option Value:=(vr P t).bind fun z=>if flat z then some z else none

def Bw:Operand->Option BH
 |.tmp t=>some (.t t)
 |.const v=>if flat v then some (.c v)else none
 |.func f=>some (.c (.func (.func f) #[] #[]))
 |.global _=>none
def HT:List Operand->Option (List BH)
 |[]=>some []
 |x::xs=>(Bw x).bind fun y=>(HT xs).map (y:: ·)
def JL:Option Operand->Option (Option BH)
 |none=>some none
 |some x=>(Bw x).map some
def JV (place:Nat->Option (Nat × Nat)):List (Nat × Operand)->Option (List (Nat × Nat × BH))
 |[]=>some []
 |(i,x)::rest=>(place i).bind fun p=>(Bw x).bind fun y=>(JV place rest).map ((p.1,p.2,y):: ·)

def nN:BinOp->Option qH
 |.add=>some .add
 |.sub=>some .sub
 |.mul=>some .mul
 |.eql=>some .eql
 |.neq=>some .neq
 |.lss=>some .lss
 |.leq=>some .leq
 |.gtr=>some .gtr
 |.geq=>some .geq
 |_=>none

def JJ (P:Program) (fields:Array Field) (i:Nat):Option (Nat × Nat):=(fields[i]?).bind fun f=>(sizeT P f.type).map fun s=>(f.offset,s)

def pW (P:Program) (o:Oper) (op:BinOp) (t:TypeId) (x y:Operand):Option B9:=
 (Bw x).bind fun x'=>(Bw y).bind fun y'=>
 match P.underlying t with
 | some (.int .i64)=>
   match nN op with
   |some i=>some (.int i x' y')
   | none=>match op with
     |.quo=>some (.EV true x' y')
     |.rem=>some (.EV false x' y')
     |_=>some (.pure o)
 | some (.pointer _)=>match op with
   |.eql=>some (.cmp (some false) false x' y' o)
   |.neq=>some (.cmp (some false) true x' y' o)
   |_=>some (.pure o)
 | some (.slice _)=>match op with
   |.eql=>some (.cmp (some true) false x' y' o)
   |.neq=>some (.cmp (some true) true x' y' o)
   |_=>some (.pure o)
 | some (.map _ _)=>match op with
   |.eql=>some (.cmp none false x' y' o)
   |.neq=>some (.cmp none true x' y' o)
   |_=>some (.pure o)
 |_=>some (.pure o)

def Tv (P:Program) (o:Oper) (c:Call):Option Qh:=
 match c.callee with
 |.value f=>(Bw f).bind fun f'=>(HT c.args.toList).map fun as=>.call f' as
 | .invoke x nm=>match Bw x with
   |some (.t n)=>(HT c.args.toList).map fun as=>.call (.m n nm) as
   |_=>none
 | .builtin b=>
   match c.args.toList,c.argTypes.toList with
   | [x],[t]=>
     (Bw x).bind fun x'=>
     match b,P.underlying t with
     |.len,some (.slice _)=>some (.op (.len x'))
     |.len,some .string=>some (.op (.bf x'))
     |.len,some (.map _ _)=>some (.op (.NC x'))
     |.cap,some (.slice _)=>some (.op (.cap x'))
     |.clear,some (.slice e)=>(Fx P e).map fun z=>.op (.qP (Bf z) x')
     |_,_=>none
   | [x,y],[t,u]=>
     (Bw x).bind fun x'=>(Bw y).bind fun y'=>
     match b,P.underlying t with
     | .append,some (.slice e)=>
       match P.underlying u with
       |some (.int _)=>none
       |some _=>(P.info? e).bind fun ie=>(Fx P e).bind fun z=>if ie.size≠0/\(Bf z).length=ie.size then some (.op (.append e ie.size ie.bytes x' y'))else none
       |none=>none
     |.copy,some (.slice e)=>(sizeT P e).map fun s=>.op (.copy s x' y')
     |.delete,some (.map k _)=>some (.op (.delete k x' y'))
     |.min,some (.int .i64)=>some (.op (.Il false x' y'))
     |.max,some (.int .i64)=>some (.op (.Il true x' y'))
     |.min,_=>some (.op (.pure o))
     |.max,_=>some (.op (.pure o))
     |_,_=>none
   | xs,_=>
     match b with
     |.min|.max=>(HT xs).map fun _=>.op (.pure o)
     |_=>none

def O4 (P:Program) (o:Oper):Option Qh:=
 match o.op with
 |.move x=>(Bw x).map fun x'=>.op (.mv x')
 |.assign x=>(Bw x).map fun x'=>.op (.mv x')
 |.pick c a b=>(Bw c).bind fun c'=>(Bw a).bind fun a'=>(Bw b).map fun b'=>.op (.pick c' a' b')
 |.alloc e=>(Fx P e).map fun z=>.op (.alloc (Bf z) e)
 |.box e x=>(Bw x).map fun x'=>.op (.box x' e)
 | .build t parts=>
   (Fx P t).bind fun z=>
   match P.underlying t with
   |some (.struct fields)=>if fields.toList.all (fun f=>(sizeT P f.type).isSome)=true then(JV (JJ P fields) parts.toList).map fun ps=>.op (.build (Bf z) ps)else none
   |some (.array _ e)=>(sizeT P e).bind fun s=>(JV (fun i=>some (i*s,s)) parts.toList).map fun ps=>.op (.build (Bf z) ps)
   |_=>none
 | .buildSlice t len parts=>
   match P.underlying t with
   | some (.slice e)=>
     (P.info? e).bind fun ie=>(Fx P e).bind fun z=>
     if len*ie.size<=2^24/\ie.size≠0/\(Bf z).length=ie.size then
      (JV (fun i=>some (i*ie.size,ie.size)) parts.toList).map fun ps=>.op (.BF (HX (Bf z) len) ps len e)
     else none
   |_=>none
 | .load t a=>
   (Bw a).bind fun a'=>
   match Dc P t with
   |some true=>(sizeT P t).map fun n=>.op (.Az n a')
   |some false=>some (.op (.Af a'))
   |none=>none
 |.store t a x=>(sizeT P t).bind fun n=>(Bw a).bind fun a'=>(Bw x).map fun x'=>.op (.store n a' x')
 |.nilCheck x=>(Bw x).map fun x'=>.op (.BP x')
 |.binOp op t x y _=>(pW P o op t x y).map .op
 | .unOp op t x=>
   (Bw x).bind fun x'=>
   match op,P.underlying t with
   |.not,_=>some (.op (.not x'))
   |.neg,some (.int .i64)=>some (.op (.neg x'))
   |_,_=>some (.op (.pure o))
 | .convert s d x=>
   (Bw x).bind fun x'=>
   match P.underlying s,P.underlying d with
   |some (.int _),some (.int k)=>some (.op (.conv k x'))
   | some (.slice e),some .string=>match P.underlying e with
     |some (.int .u8)=>some (.op (.b2s x'))
     |_=>none
   |_,_=>some (.op (.pure o))
 | .makeInterface t x=>
   match P.underlying t with
   |some (.interface _)=>none
   |some _=>(Bw x).map fun x'=>.op (.Wl t x')
   |none=>none
 |.makeFunc fn first captured=>if PV fn then(HT first.toList).bind fun f=>(HT captured.toList).map fun c=>.op (.Hf fn f c)else none
 |.makeMap _ none=>some (.op .LO)
 | .makeSlice t l c=>
   match P.underlying t with
   | some (.slice e)=>
     (P.info? e).bind fun ie=>(Fx P e).bind fun z=>
     if ie.size≠0/\(Bf z).length=ie.size then
      (Bw l).bind fun l'=>(Bw c).map fun c'=>.op (.FP (Bf z) ie.bytes e l' c')
     else none
   |_=>none
 | .slice t x lo hi mx=>
   (Bw x).bind fun x'=>(JL lo).bind fun lo'=>(JL hi).bind fun hi'=>(JL mx).bind fun mx'=>
   if mx'.isSome/\hi'.isNone then none else
   match P.underlying t with
   |some (.array n e)=>(sizeT P e).map fun s=>.op (.Ls n s x' lo' hi' mx')
   |some (.slice e)=>(sizeT P e).map fun s=>.op (.HL s x' lo' hi' mx')
   |some .string=>some (.op (.pure o))
   |_=>none
 | .fieldAddr s x f=>
   match P.underlying s with
   |some (.struct fields)=>(fields[f]?).bind fun fd=>(sizeT P fd.type).bind fun n=>if n=0 then none else(Bw x).map fun x'=>.op (.Ai fd.offset x')
   |_=>none
 | .field t x f=>
   match P.underlying t with
   | some (.struct fields)=>
     (fields[f]?).bind fun fd=>(Bw x).bind fun x'=>
     match Dc P fd.type with
     |some true=>(sizeT P fd.type).map fun n=>.op (.Tg fd.offset n x')
     |some false=>some (.op (.field1 fd.offset x'))
     |none=>none
   |_=>none
 | .indexAddr t x i=>
   (Bw x).bind fun x'=>(Bw i).bind fun i'=>
   match P.underlying t with
   |some (.array n e)=>(sizeT P e).map fun s=>.op (.Cc n s x' i')
   |some (.slice e)=>(sizeT P e).map fun s=>.op (.Bb s x' i')
   |_=>none
 | .index t x i=>
   (Bw x).bind fun x'=>(Bw i).bind fun i'=>
   match P.underlying t with
   | some (.array n e)=>
     match Dc P e with
     |some true=>(sizeT P e).map fun s=>.op (.jn n s x' i')
     |some false=>if sizeT P e=some 1 then some (.op (.tu n x' i'))else none
     |none=>none
   |some .string=>some (.op (.pure o))
   |_=>none
 |.extract x i=>(Bw x).map fun x'=>.op (.extract x' i)
 | .typeAssert x _ t ok=>
   match P.underlying t with
   |some (.interface _)=>if ok=true then none else(Bw x).map fun x'=>.op (.Z2 t x')
   |some _=>(Fx P t).bind fun z=>(Bw x).map fun x'=>.op (.rG t z ok x')
   |none=>none
 | .lookup t m k ok=>
   match P.underlying t with
   |some (.map kt e)=>(Fx P e).bind fun z=>(Bw m).bind fun m'=>(Bw k).map fun k'=>.op (.lookup kt z ok m' k')
   |_=>none
 | .mapUpdate t m k v=>
   match P.underlying t with
   |some (.map kt _)=>(Bw m).bind fun m'=>(Bw k).bind fun k'=>(Bw v).map fun v'=>.op (.Ig kt m' k' v')
   |_=>none
 | .insert t m k v=>
   match P.underlying t with
   |some (.map kt _)=>(Bw m).bind fun m'=>(Bw k).bind fun k'=>(Bw v).map fun v'=>.op (.Ig kt m' k' v')
   |_=>none
 |.call c=>Tv P o c
 |.panic _=>some (.op .dead)
 | .range t x=>
   match P.underlying t with
   |some (.map _ _)=>(Bw x).map fun x'=>.op (.GI x')
   |some .string=>(Bw x).map fun x'=>.op (.Nr x')
   |_=>none
 |.next x st=>if st=true then(Bw x).map fun x'=>.op (.M1 x')else none
 |.entry x=>(Bw x).map fun x'=>.op (.entry x')
 | .mapEntry t m k=>
   match P.underlying t with
   |some (.map kt e)=>(Fx P e).bind fun z=>(Bw m).bind fun m'=>(Bw k).map fun k'=>.op (.H4 kt z m' k')
   |_=>none
 |.entryStore _ m s v=>(Bw m).bind fun m'=>(Bw s).bind fun s'=>(Bw v).map fun v'=>.op (.Mc m' s' v')
 |_=>none

def comp (P:Program) (o:Oper):Option Qh:=match o.op with
 |.defer _=>none
 |.next _ false=>none
 |_=>some ((O4 P o).getD (.op .dead))
theorem W6 {P:Program}{o:Oper}{ao:B9}(h:comp P o=some (.op ao)) (hd:ao≠ .dead):O4 P o=some (.op ao):=by
 unfold comp at h
 split at h
 ·cases h
 ·cases h
 ·cases e:O4 P o with
  |none=>rw[e]at h;simp at h;exact absurd h.symm hd
  |some x=>rw[e]at h;simpa using h

end AE

/- Operations that touch nothing of the heap. -/
namespace AE
open Go

section
variable {P:Program}{I:AZ}{ts:Ts}{ρ:Operand->Value}

def Ev (I:AZ) (ts:Ts) (ρ:Operand->Value):Prop:=∀x x',Bw x=some x'->ρ x=ren I (ev ts x')/\In I (ev ts x')

theorem HM {α:Type}(P:Program):∀(s:Sem α) (a:α),Bl P s=some a->∀w,s.run P w= .ok a w
 |.pure b,a,h,w=>by simp[Bl]at h;subst h;rfl
 | .program k,a,h,w=>by
   simp only[Bl]at h
   exact HM P (k P) a h w
 |.load _ _ _,_,h,_=>by simp[Bl]at h
 |.store _ _ _ _,_,h,_=>by simp[Bl]at h
 |.new _ _,_,h,_=>by simp[Bl]at h
 |.shape _ _,_,h,_=>by simp[Bl]at h
 |.freeze _ _ _,_,h,_=>by simp[Bl]at h
 |.frozen _ _,_,h,_=>by simp[Bl]at h
 |.getObj _ _,_,h,_=>by simp[Bl]at h
 |.setObj _ _ _,_,h,_=>by simp[Bl]at h
 |.choose _ _,_,h,_=>by simp[Bl]at h
 |.sys _ _,_,h,_=>by simp[Bl]at h
 |.mark _ _,_,h,_=>by simp[Bl]at h
 |.halt _,_,h,_=>by simp[Bl]at h

def Fj (P:Program) (I:AZ) (ρ:Operand->Value) (o:Oper) (v:Value):Prop:=In I v/\∀w,(execOp ρ o).run P w= .ok (.value (ren I v)) w

theorem Gu (hρ:Ev I ts ρ) {o:Oper}{v:Value}(hs:∀cs b,o.op≠ .select cs b) (hx:∀x∈o.op.operands,∃x',Bw x=some x')
 (h:Ib P ts o=some v):Fj P I ρ o v:=by
 unfold Ib at h
 split at h
 ·rename_i hf
  have hρ':∀x∈o.op.operands,ρ x=Ud ts x:=by
   intro x hxm
   obtain⟨x',e⟩:=hx x hxm
   have hfl:flat (Ud ts x)=true:=List.all_eq_true.1 hf x (by simpa using hxm)
   have hev:ev ts x'=Ud ts x:=by
    cases x with
    |tmp t=>simp[Bw]at e;subst e;rfl
    |const v=>simp only[Bw]at e;split at e<;>simp at e;subst e;rfl
    |global g=>simp[Bw]at e
    |func f=>simp[Bw]at e;subst e;rfl
   rw[(hρ x x' e).1,hev,(Cg I _ hfl).1]
  rw[Fj,execOp_congr o hs hρ']
  unfold Rc at h
  split at h
  ·rename_i v' hr
   split at h
   ·rename_i hfv
    simp at h;subst h
    obtain⟨e,i⟩:=Cg I v' hfv
    exact⟨i,fun w=>by rw[e];exact HM P _ _ hr w⟩
   ·simp at h
  ·simp at h
 ·simp at h


theorem Cs {t:TypeId}{n:Nat}(h:sizeT P t=some n) (w:World):(Go.sizeOf t).run P w= .ok n w:=by
 unfold sizeT at h
 cases hi:P.info? t with
 |none=>simp[hi]at h
 |some i=>simp[hi]at h;simp[Go.sizeOf,run_typeInfo w hi,h]
theorem KF {t:TypeId}{b:Bool}(h:Dc P t=some b) (w:World):(isAgg t).run P w= .ok b w:=by
 unfold Dc at h
 cases hu:P.underlying t with
 |none=>simp[hu]at h
 |some d=>cases d<;>simp[hu]at h<;>subst h<;>simp[isAgg,run_underlying hu]
theorem CO {t:TypeId}{z:Value}(h:Fx P t=some z) (w:World):(zeroValue t).run P w= .ok z w/\flat z=true:=by
 unfold Fx vr at h
 cases hi:P.info? t with
 |none=>simp[hi]at h
 | some i=>
   simp only[hi,Option.bind_some]at h
   cases hz:i.zero with
   |none=>simp[hz]at h
   | some z'=>
     simp only[hz,Option.bind_some]at h
     split at h<;>simp at h
     subst h
     exact⟨by simp[zeroValue,run_typeInfo w hi,hz],by assumption⟩

theorem eV (hρ:Ev I ts ρ) {o:Oper}{x:Operand}{x':BH}(ho:o.op= .move x\/o.op= .assign x) (hx:Bw x=some x'):Fj P I ρ o (ev ts x'):=by
 obtain⟨e,i⟩:=hρ x x' hx
 rcases ho with ho|ho<;>exact⟨i,fun w=>by simp[execOp,ho,e]⟩

theorem i9 (hρ:Ev I ts ρ) {o:Oper}{c a b:Operand}{c' a' b':BH}{v:Value}(ho:o.op= .pick c a b) (hc:Bw c=some c') (ha:Bw a=some a') (hb:Bw b=some b')
 (h:Ul (ev ts a') (ev ts b') (ev ts c')=some v):Fj P I ρ o v:=by
 obtain⟨ec, -⟩:=hρ c c' hc
 obtain⟨ea,ia⟩:=hρ a a' ha
 obtain⟨eb,ib⟩:=hρ b b' hb
 unfold Ul at h
 split at h
 ·rename_i t ht
  rw[ht]at ec
  simp at h;subst h
  refine⟨by split<;>assumption,fun w=>?_⟩
  simp only[execOp,ho,ec,ea,eb,ren]
  cases t<;>simp[asBool]
 ·simp at h

theorem aU (hρ:Ev I ts ρ) {o:Oper}{x:Operand}{x':BH}{v:Value}(ho:o.op= .nilCheck x) (hx:Bw x=some x') (h:Ry (ev ts x')=some v):Fj P I ρ o v:=by
 obtain⟨e,i⟩:=hρ x x' hx
 unfold Ry at h
 split at h
 ·rename_i a ha
  rw[ha]at e i
  simp at h;subst h
  refine⟨i,fun w=>?_⟩
  obtain⟨p,hp⟩:=i
  simp[execOp,ho,e,ren,Ew,hp]
 ·simp at h

theorem mX (hρ:Ev I ts ρ) {o:Oper}{op:BinOp}{i:qH}{t t':TypeId}{x y:Operand}{x' y':BH}{v:Value}(ho:o.op= .binOp op t x y t')
 (hi:nN op=some i) (hx:Bw x=some x') (hy:Bw y=some y') (h:kV i (ev ts x') (ev ts y')=some v):Fj P I ρ o v:=by
 obtain⟨ex, -⟩:=hρ x x' hx
 obtain⟨ey, -⟩:=hρ y y' hy
 unfold kV at h
 split at h
 ·rename_i a b ha hb
  rw[ha]at ex
  rw[hb]at ey
  simp only[ren]at ex ey
  simp at h;subst h
  cases op<;>simp[nN]at hi<;>subst hi<;>
   exact⟨by simp[ZK,In],fun w=>by simp[execOp,ho,ex,ey,eqGuard,binOp,Op.intArith,Op.intCmp,ZK,ren,Xp]⟩
 ·simp at h

theorem US (hρ:Ev I ts ρ) {o:Oper}{op:BinOp}{q:Bool}{t t':TypeId}{x y:Operand}{x' y':BH}{v:Value}(ho:o.op= .binOp op t x y t')
 (hi:op=if q then .quo else .rem) (hx:Bw x=some x') (hy:Bw y=some y') (h:Qj q (ev ts x') (ev ts y')=some v):Fj P I ρ o v:=by
 obtain⟨ex, -⟩:=hρ x x' hx
 obtain⟨ey, -⟩:=hρ y y' hy
 unfold Qj at h
 split at h
 ·rename_i a b ha hb
  rw[ha]at ex
  rw[hb]at ey
  simp only[ren]at ex ey
  split at h<;>simp at h
  rename_i hb0
  subst h
  cases q<;>simp at hi<;>subst hi<;>
   exact⟨by simp[In],fun w=>by simp[execOp,ho,ex,ey,eqGuard,binOp,Op.intDiv,hb0,ren,Xp]⟩
 ·simp at h

theorem mU (hρ:Ev I ts ρ) {o:Oper}{t:TypeId}{x:Operand}{x':BH}{v:Value}(ho:o.op= .unOp .not t x) (hx:Bw x=some x') (h:gJ (ev ts x')=some v):Fj P I ρ o v:=by
 obtain⟨e, -⟩:=hρ x x' hx
 unfold gJ at h
 split at h
 ·rename_i b hb
  rw[hb]at e
  simp at h;subst h
  exact⟨by simp[In],fun w=>by simp[execOp,ho,e,ren,Op.unary]⟩
 ·simp at h
theorem mV (hρ:Ev I ts ρ) {o:Oper}{t:TypeId}{x:Operand}{x':BH}{v:Value}(ho:o.op= .unOp .neg t x) (hx:Bw x=some x') (h:qX (ev ts x')=some v):Fj P I ρ o v:=by
 obtain⟨e, -⟩:=hρ x x' hx
 unfold qX at h
 split at h
 ·rename_i b hb
  rw[hb]at e
  simp at h;subst h
  exact⟨by simp[In],fun w=>by simp[execOp,ho,e,ren,Op.unary,Op.intArith,Xp]⟩
 ·simp at h
theorem jf (hρ:Ev I ts ρ) {o:Oper}{s d:TypeId}{j k:IntKind}{x:Operand}{x':BH}{v:Value}(ho:o.op= .convert s d x) (hs:P.underlying s=some (.int j)) (hd:P.underlying d=some (.int k))
 (hx:Bw x=some x') (h:dD k (ev ts x')=some v):Fj P I ρ o v:=by
 obtain⟨e, -⟩:=hρ x x' hx
 unfold dD at h
 split at h
 ·rename_i b hb
  rw[hb]at e
  simp at h;subst h
  exact⟨by simp[In],fun w=>by simp[execOp,ho,e,ren,convert,run_underlying hs,run_underlying hd,Conv.intToInt]⟩
 ·simp at h
theorem UR (hρ:Ev I ts ρ) {o:Oper}{m:Bool}{b:Builtin}{x y:Operand}{x' y':BH}{ty:Array TypeId}{v:Value}(hb:b=if m then .max else .min) (ho:o.op= .call ⟨.builtin b, #[x,y],ty⟩)
 (hx:Bw x=some x') (hy:Bw y=some y') (h:Um m (ev ts x') (ev ts y')=some v):Fj P I ρ o v:=by
 obtain⟨ex, -⟩:=hρ x x' hx
 obtain⟨ey, -⟩:=hρ y y' hy
 unfold Um at h
 split at h
 ·rename_i a c ha hc
  rw[ha]at ex
  rw[hc]at ey
  simp only[ren]at ex ey
  simp at h;subst h
  cases m<;>simp at hb<;>subst hb<;>
   exact⟨by simp[In],fun w=>by simp[execOp,ho,ex,ey,resolve,invoke,builtin,Builtin.min_,Builtin.max_,Builtin.min2,Builtin.max2,ren]⟩
 ·simp at h
theorem ja (hρ:Ev I ts ρ) {o:Oper}{t:TypeId}{d:TypeDesc}{x:Operand}{x':BH}(ho:o.op= .makeInterface t x) (ht:P.underlying t=some d) (hd:∀m,d≠ .interface m) (hx:Bw x=some x'):
 Fj P I ρ o (.iface t (ev ts x')):=by
 obtain⟨e,i⟩:=hρ x x' hx
 refine⟨by simpa[In]using i,fun w=>?_⟩
 cases d<;>first
  |exact absurd rfl (hd _)
  |simp[execOp,ho,e,ren,Instr.makeInterface,run_underlying ht]

theorem Tt (hρ:Ev I ts ρ):∀(xs:List Operand) (ys:List BH),HT xs=some ys->xs.map ρ=AX I (ys.map (ev ts))/\C5 I (ys.map (ev ts))
 |[],ys,h=>by simp[HT]at h;subst h;simp[AX,C5]
 | x::xs,ys,h=>by
   simp only[HT,Option.bind_eq_some_iff,Option.map_eq_some_iff]at h
   obtain⟨y,hy,zs,hz,rfl⟩:=h
   obtain⟨e,i⟩:=hρ x y hy
   obtain⟨e2,i2⟩:=Tt hρ xs zs hz
   simp only[List.map_cons,AX,C5]
   exact⟨by rw[e,e2],i,i2⟩
theorem jb (hρ:Ev I ts ρ) {o:Oper}{fn:Fn}{fs cs:Array Operand}{f' c':List BH}(ho:o.op= .makeFunc fn fs cs) (hf:PV fn=true) (h1:HT fs.toList=some f') (h2:HT cs.toList=some c'):
 Fj P I ρ o (.func fn ⟨f'.map (ev ts)⟩ ⟨c'.map (ev ts)⟩):=by
 obtain⟨e1,i1⟩:=Tt hρ _ _ h1
 obtain⟨e2,i2⟩:=Tt hρ _ _ h2
 have hn:Gs I fn=fn/\Ku I fn:=by cases fn<;>simp_all[PV,Gs,Ku]
 refine⟨by simp only[In];exact⟨hn.2,i1,i2⟩,fun w=>?_⟩
 have a1:fs.map ρ=⟨fs.toList.map ρ⟩:=by cases fs;simp
 have a2:cs.map ρ=⟨cs.toList.map ρ⟩:=by cases cs;simp
 simp[execOp,ho,Instr.makeFunc,ren,a1,a2,e1,e2,hn.1]

theorem J6 {a:Addr}(ha:Nm I a) (n:Nat):Nm I (BI a n)/\Ew I (BI a n)=(Ew I a).map (·.add n):=by
 obtain⟨p,hp⟩:=ha
 refine⟨⟨p,by simpa[BI]using hp⟩,?_⟩
 simp only[Ew,BI,hp,Option.map_some,Addr.add]
 split
 ·rename_i h;subst h;simp
 ·simp[Nat.add_assoc]
theorem Ek {a:Addr}(ha:Nm I a):∃b,Ew I a=some b:=by
 obtain⟨p,hp⟩:=ha
 exact⟨⟨p.1,p.2+a.off,none⟩,by simp only[Ew,hp]⟩

theorem aW (hρ:Ev I ts ρ) {o:Oper}{s:TypeId}{f n:Nat}{fields:Array Field}{fd:Field}{x:Operand}{x':BH}{v:Value}(ho:o.op= .fieldAddr s x f) (hs:P.underlying s=some (.struct fields))
 (hf:fields[f]? =some fd) (hn:sizeT P fd.type=some n) (hn0:n≠0) (hx:Bw x=some x') (h:RA fd.offset (ev ts x')=some v):Fj P I ρ o v:=by
 obtain⟨e,i⟩:=hρ x x' hx
 unfold RA at h
 split at h
 ·rename_i a ha
  rw[ha]at e i
  simp at h;subst h
  simp only[In]at i
  obtain⟨i2,e2⟩:=J6 i fd.offset
  obtain⟨b,hb⟩:=Ek i
  refine⟨by simpa[In]using i2,fun w=>?_⟩
  simp[execOp,ho,e,ren,Instr.fieldAt,run_underlying hs,hf,Instr.sureAddr,hb,fieldPlace,Cs hn,hn0,e2]
 ·simp at h

theorem HS {α:Type}{xs l:List α}{off n:Nat}(h:cut xs off n=some l):off+n<=xs.length/\l=(xs.drop off).take n:=by
 unfold cut at h
 split at h<;>simp at h
 exact⟨by assumption,h.symm⟩
theorem Ru {xs l:List Value}{off n:Nat}(hx:C5 I xs) (h:cut xs off n=some l):C5 I l:=by
 obtain⟨-,rfl⟩:=HS h
 exact(MV I _).2 fun v hv=>(MV I _).1 hx v (List.mem_of_mem_drop (List.mem_of_mem_take hv))
theorem mj {xs l:List Value}{off n:Nat}(h:cut xs off n=some l):AX I l=((AX I xs).drop off).take n:=by
 obtain⟨-,rfl⟩:=HS h
 simp[IZ,List.map_take,List.map_drop]

theorem Oe {t:TypeId}{n off:Nat}{cs l:List Value}(ha:Dc P t=some true) (hn:sizeT P t=some n) (hc:cut cs off n=some l) (w:World):
 (part t ⟨AX I cs⟩ off).run P w= .ok (.agg ⟨AX I l⟩) w:=by
 rw[mj hc]
 simp[part,KF ha,Cs hn]
theorem Od {t:TypeId}{off:Nat}{cs:List Value}{v:Value}(ha:Dc P t=some false) (hc:cs[off]? =some v) (w:World):
 (part t ⟨AX I cs⟩ off).run P w= .ok (ren I v) w:=by
 have:(AX I cs)[off]? =some (ren I v):=by rw[Dm,hc];rfl
 simp[part,KF ha,this]

theorem Yq (hρ:Ev I ts ρ) {o:Oper}{s:TypeId}{f:Nat}{fields:Array Field}{fd:Field}{x:Operand}{x':BH}{v:Value}(ho:o.op= .field s x f) (hs:P.underlying s=some (.struct fields))
 (hf:fields[f]? =some fd) (ha:Dc P fd.type=some false) (hx:Bw x=some x') (h:N7 fd.offset (ev ts x')=some v):Fj P I ρ o v:=by
 obtain⟨e,i⟩:=hρ x x' hx
 unfold N7 at h
 split at h
 ·rename_i cs hcs
  rw[hcs]at e i
  cases cs with|mk cs=>
  simp only[In]at i
  refine⟨Gm i h,fun w=>?_⟩
  rw[Ra]at e
  simp[execOp,ho,e,Instr.field,run_underlying hs,hf,asAgg,Od ha h]
 ·simp at h
theorem Yp (hρ:Ev I ts ρ) {o:Oper}{s:TypeId}{f n:Nat}{fields:Array Field}{fd:Field}{x:Operand}{x':BH}{v:Value}(ho:o.op= .field s x f) (hs:P.underlying s=some (.struct fields))
 (hf:fields[f]? =some fd) (ha:Dc P fd.type=some true) (hn:sizeT P fd.type=some n) (hx:Bw x=some x') (h:QX fd.offset n (ev ts x')=some v):Fj P I ρ o v:=by
 obtain⟨e,i⟩:=hρ x x' hx
 unfold QX at h
 split at h
 ·rename_i cs hcs
  rw[hcs]at e i
  cases cs with|mk cs=>
  simp only[In]at i
  simp only[Option.map_eq_some_iff]at h
  obtain⟨l,hl,rfl⟩:=h
  refine⟨by simpa only[In]using Ru i hl,fun w=>?_⟩
  rw[Ra]at e
  simp[execOp,ho,e,Instr.field,run_underlying hs,hf,asAgg,Oe ha hn hl,ren]
 ·simp at h

theorem Hu {v:Value}{i:Nat}(h:C9 v=some i):∃k,ren I v= .int k (i:Int):=by
 unfold C9 at h
 split at h
 ·rename_i k n
  split at h<;>simp at h
  exact⟨k,by simp only[ren];congr 1;omega⟩
 ·simp at h
theorem aV (hρ:Ev I ts ρ) {o:Oper}{t e:TypeId}{n sz:Nat}{x y:Operand}{x' y':BH}{v:Value}(ho:o.op= .indexAddr t x y) (ht:P.underlying t=some (.array n e)) (hsz:sizeT P e=some sz)
 (hx:Bw x=some x') (hy:Bw y=some y') (h:Rz n sz (ev ts y') (ev ts x')=some v):Fj P I ρ o v:=by
 obtain⟨e1,i1⟩:=hρ x x' hx
 obtain⟨e2, -⟩:=hρ y y' hy
 unfold Rz at h
 split at h
 ·rename_i a ha
  rw[ha]at e1 i1
  simp only[Option.bind_eq_some_iff]at h
  obtain⟨i,hi,h⟩:=h
  obtain⟨k,hk⟩:=Hu (I:=I) hi
  rw[hk]at e2
  split at h<;>simp at h
  rename_i hlt
  subst h
  simp only[In]at i1
  obtain⟨i3,e3⟩:=J6 i1 (i*sz)
  obtain⟨b,hb⟩:=Ek i1
  refine⟨by simpa[In]using i3,fun w=>?_⟩
  simp[execOp,ho,e1,e2,ren,Instr.indexAt,run_underlying ht,Instr.sureAddr,hb,asIntOf,Cs hsz,e3,hlt]
 ·simp at h
theorem je (hρ:Ev I ts ρ) {o:Oper}{t e:TypeId}{sz:Nat}{x y:Operand}{x' y':BH}{v:Value}(ho:o.op= .indexAddr t x y) (ht:P.underlying t=some (.slice e)) (hsz:sizeT P e=some sz)
 (hx:Bw x=some x') (hy:Bw y=some y') (h:Xx sz (ev ts y') (ev ts x')=some v):Fj P I ρ o v:=by
 obtain⟨e1,i1⟩:=hρ x x' hx
 obtain⟨e2, -⟩:=hρ y y' hy
 unfold Xx at h
 split at h
 ·rename_i a n c ha
  rw[ha]at e1 i1
  simp only[Option.bind_eq_some_iff]at h
  obtain⟨i,hi,h⟩:=h
  obtain⟨k,hk⟩:=Hu (I:=I) hi
  rw[hk]at e2
  split at h<;>simp at h
  rename_i hlt
  subst h
  have hcf:c<far:=by
   rcases Nat.lt_or_ge c far with hc|hc
   ·exact hc
   ·rw[Mj hc]at i1;omega
  rw[Dp hcf]at i1
  rw[CQ hcf]at e1
  obtain⟨i3,e3⟩:=J6 i1.1 (i*sz)
  obtain⟨b,hb⟩:=Ek i1.1
  refine⟨by simpa[In]using i3,fun w=>?_⟩
  simp[execOp,ho,e1,e2,ren,Instr.indexAt,run_underlying ht,hb,asIntOf,Cs hsz,e3,hlt]
 ·simp at h
theorem jd (hρ:Ev I ts ρ) {o:Oper}{t e:TypeId}{n:Nat}{x y:Operand}{x' y':BH}{v:Value}(ho:o.op= .index t x y) (ht:P.underlying t=some (.array n e)) (hsz:sizeT P e=some 1) (ha:Dc P e=some false)
 (hx:Bw x=some x') (hy:Bw y=some y') (h:kU n (ev ts y') (ev ts x')=some v):Fj P I ρ o v:=by
 obtain⟨e1,i1⟩:=hρ x x' hx
 obtain⟨e2, -⟩:=hρ y y' hy
 unfold kU at h
 split at h
 ·rename_i cs hcs
  rw[hcs]at e1 i1
  cases cs with|mk cs=>
  simp only[Option.bind_eq_some_iff]at h
  obtain⟨i,hi,h⟩:=h
  obtain⟨k,hk⟩:=Hu (I:=I) hi
  rw[hk]at e2
  split at h
  ·rename_i hlt
   simp only[In]at i1
   refine⟨Gm i1 h,fun w=>?_⟩
   rw[Ra]at e1
   simp[execOp,ho,e1,e2,Instr.index,run_underlying ht,asIntOf,Cs hsz,hlt,Od ha h]
  ·simp at h
 ·simp at h
theorem jc (hρ:Ev I ts ρ) {o:Oper}{t e:TypeId}{n sz:Nat}{x y:Operand}{x' y':BH}{v:Value}(ho:o.op= .index t x y) (ht:P.underlying t=some (.array n e)) (hsz:sizeT P e=some sz) (ha:Dc P e=some true)
 (hx:Bw x=some x') (hy:Bw y=some y') (h:dB n sz (ev ts y') (ev ts x')=some v):Fj P I ρ o v:=by
 obtain⟨e1,i1⟩:=hρ x x' hx
 obtain⟨e2, -⟩:=hρ y y' hy
 unfold dB at h
 split at h
 ·rename_i cs hcs
  rw[hcs]at e1 i1
  cases cs with|mk cs=>
  simp only[Option.bind_eq_some_iff]at h
  obtain⟨i,hi,h⟩:=h
  obtain⟨k,hk⟩:=Hu (I:=I) hi
  rw[hk]at e2
  split at h
  ·rename_i hlt
   simp only[Option.map_eq_some_iff]at h
   obtain⟨l,hl,rfl⟩:=h
   simp only[In]at i1
   refine⟨by simpa only[In]using Ru i1 hl,fun w=>?_⟩
   rw[Ra]at e1
   simp[execOp,ho,e1,e2,Instr.index,run_underlying ht,asIntOf,Cs hsz,hlt,Oe ha hsz hl,ren]
  ·simp at h
 ·simp at h
theorem Wo (hρ:Ev I ts ρ) {o:Oper}{x:Operand}{x':BH}{i:Nat}{v:Value}(ho:o.op= .extract x i) (hx:Bw x=some x') (h:Ll i (ev ts x')=some v):Fj P I ρ o v:=by
 obtain⟨e,hi⟩:=hρ x x' hx
 unfold Ll at h
 split at h
 ·rename_i vs hvs
  rw[hvs]at e hi
  cases vs with|mk vs=>
  simp only[In]at hi
  refine⟨Gm hi h,fun w=>?_⟩
  have:(AX I vs)[i]? =some (ren I v):=by rw[Dm];simp at h;rw[h];rfl
  simp[execOp,ho,e,ren,Instr.extract,this]
 ·simp at h
theorem Yn (hρ:Ev I ts ρ) {o:Oper}{t xt:TypeId}{x:Operand}{x':BH}{v:Value}(ho:o.op= .typeAssert x xt t false)
 (hx:Bw x=some x') (h:Vz P t (ev ts x')=some v):Fj P I ρ o v:=by
 obtain⟨e,i⟩:=hρ x x' hx
 unfold Vz at h
 split at h
 ·rename_i u y hy
  rw[hy]at e i
  simp only[ren,In]at e i
  split at h
  ·rename_i want fi ht hu
   split at h
   ·rename_i hm
    simp at h;subst h
    refine⟨by simpa[In]using i,fun w=>?_⟩
    have hm':Instr.missingMethod want fi.methods=none:=by simpa using hm
    have hti:(typeInfo u).run P w= .ok fi w:=by simp[typeInfo,program,Sem.run,hu]
    simp[execOp,ho,e,Instr.typeAssert,run_underlying ht,hti,hm',ren]
   ·simp at h
  ·simp at h
 ·simp at h
theorem i6 (hρ:Ev I ts ρ) {o:Oper}{t xt:TypeId}{d:TypeDesc}{ok:Bool}{z:Value}{x:Operand}{x':BH}{v:Value}(ho:o.op= .typeAssert x xt t ok) (ht:P.underlying t=some d) (hd:∀m,d≠ .interface m)
 (hz:Fx P t=some z) (hx:Bw x=some x') (h:kS t z ok (ev ts x')=some v):Fj P I ρ o v:=by
 obtain⟨e,i⟩:=hρ x x' hx
 have fm:=(CO hz default).2
 obtain⟨ez,iz⟩:=Cg I z fm
 unfold kS at h
 split at h
 ·rename_i u y hy
  rw[hy]at e i
  simp only[ren,In]at e i
  split at h
  ·rename_i hut
   subst hut
   simp at h;subst h
   cases ok
   ·refine⟨by simpa using i,fun w=>?_⟩
    cases d<;>first
     |exact absurd rfl (hd _)
     |simp[execOp,ho,e,Instr.typeAssert,run_underlying ht]
   ·refine⟨by simp[In,C5,i],fun w=>?_⟩
    cases d<;>first
     |exact absurd rfl (hd _)
     |simp[execOp,ho,e,Instr.typeAssert,run_underlying ht,ren,AX]
  ·rename_i hut
   split at h<;>simp at h
   rename_i hok
   subst h
   refine⟨by simp[In,C5,iz],fun w=>?_⟩
   cases d<;>first
    |exact absurd rfl (hd _)
    |simp[execOp,ho,e,Instr.typeAssert,run_underlying ht,ren,AX,hut,hok,(CO hz w).1,ez]
 ·rename_i hy
  rw[hy]at e
  simp only[ren]at e
  split at h<;>simp at h
  rename_i hok
  subst h
  refine⟨by simp[In,C5,iz],fun w=>?_⟩
  cases d<;>first
   |exact absurd rfl (hd _)
   |simp[execOp,ho,e,Instr.typeAssert,run_underlying ht,ren,AX,hok,(CO hz w).1,ez]
 ·simp at h



theorem M0 {α:Type}{xs ys:List α}{off:Nat}(h:off+ys.length<=xs.length):(splice xs off ys).length=xs.length:=by
 simp[splice];omega
theorem LA (xs ys:List Value) (off:Nat):AX I (splice xs off ys)=splice (AX I xs) off (AX I ys):=by
 simp[splice,IZ,List.map_take,List.map_drop]
theorem NZ {xs ys:List Value}{off:Nat}(hx:C5 I xs) (hy:C5 I ys):C5 I (splice xs off ys):=by
 rw[MV]at*
 intro v hv
 simp only[splice,List.mem_append]at hv
 rcases hv with(hv|hv)|hv
 ·exact hx v (List.mem_of_mem_take hv)
 ·exact hy v hv
 ·exact hx v (List.mem_of_mem_drop hv)

theorem foldl_set (off:Nat):∀(vs:List Value) (k:Nat) (l:List Value),off+k+vs.length<=l.length->
 (vs.zipIdx k).foldl (fun cs (x:Value × Nat)=>cs.setIfInBounds (off+x.2) x.1) (⟨l⟩:Array Value)=⟨l.take (off+k)++vs++l.drop (off+k+vs.length)⟩
 |[],k,l,h=>by simp
 | v::vs,k,l,h=>by
   simp only[List.length_cons]at h
   simp only[List.zipIdx_cons,List.foldl_cons,List.setIfInBounds_toArray]
   rw[foldl_set off vs (k+1) _ (by simp;omega),List.set_eq_take_append_cons_drop,if_pos (by omega)]
   have e1:(l.take (off+k)).length=off+k:=by simp;omega
   congr 1
   have t1:((l.take (off+k))++v::l.drop (off+k+1)).take (off+(k+1))=l.take (off+k)++[v]:=by
    rw[List.take_append,e1]
    simp[show off+(k+1) - (off+k)=1 by omega]
    exact List.take_of_length_le (by simp;omega)
   have t2:((l.take (off+k))++v::l.drop (off+k+1)).drop (off+(k+1)+vs.length)=l.drop (off+k+(vs.length+1)):=by
    rw[List.drop_append,e1,List.drop_eq_nil_of_le (by simp;omega)]
    simp[show off+(k+1)+vs.length - (off+k)=vs.length+1 by omega]
    congr 1;omega
   rw[t1,t2]
   simp

theorem Oh (hρ:Ev I ts ρ) (place:Nat->Option (Nat × Nat)):∀(ps:List (Nat × Operand)) (qs:List (Nat × Nat × BH)) (cells l:List Value),JV place ps=some qs->Hl ts cells qs=some l->C5 I cells->
 Instr.fill place ⟨AX I cells⟩ (ps.map fun(i,x)=>(i,ρ x))=some ⟨AX I l⟩/\C5 I l
 | [],qs,cells,l,hc,ha,hi=>by
   simp[JV]at hc;subst hc
   simp[Hl]at ha;subst ha
   simp[Instr.fill,hi]
 | (i,x)::ps,qs,cells,l,hc,ha,hi=>by
   simp only[JV,Option.bind_eq_some_iff,Option.map_eq_some_iff]at hc
   obtain⟨p,hp,y,hy,qs',hq,rfl⟩:=hc
   obtain⟨off,size⟩:=p
   simp only[Hl]at ha
   split at ha
   ·rename_i hf
    obtain⟨e,iv⟩:=hρ x y hy
    have hcl:=Jj I (ev ts y)
    obtain⟨hl,hoff⟩:=hf
    have ih:=Oh hρ place ps qs' _ l hq ha (NZ hi (Jo iv))
    refine⟨?_,ih.2⟩
    simp only[List.map_cons,Instr.fill,hp,e,EI]
    rw[if_neg (by simp[hcl,hl];omega)]
    rw[<-ih.1]
    congr 1
    rw[<-Array.foldl_toList,Array.toList_zipIdx]
    have:=foldl_set off (Bf (ren I (ev ts y))) 0 (AX I cells) (by simp[hcl,hl];omega)
    simp only[Nat.add_zero]at this
    rw[this,LA]
    simp[splice,hcl]
   ·simp at ha

theorem XU {α β:Type}(w:World) (f:α->Sem β) (g:α->β):∀(l:List α),(∀x∈l,(f x).run P w= .ok (g x) w)->(l.mapM f).run P w= .ok (l.map g) w
 |[],_=>by simp
 | x::l,h=>by
   have ih:=XU w f g l (fun y hy=>h y (by simp[hy]))
   simp only[List.mapM_cons,Sem.run_bind,h x (by simp),Result.andThen_ok,ih,Sem.run_pure,List.map_cons]
theorem iH {α β:Type}(w:World) (f:α->Sem β) (g:α->β) (xs:Array α) (h:∀x∈xs.toList,(f x).run P w= .ok (g x) w):(xs.mapM f).run P w= .ok ⟨xs.toList.map g⟩ w:=by
 rw[Array.mapM_eq_mapM_toList,Sem.run_map,XU w f g _ h]
 rfl

theorem SJ (hρ:Ev I ts ρ) {o:Oper}{t:TypeId}{parts:Array (Nat × Operand)}{z:Value}{ps:List (Nat × Nat × BH)}{l:List Value}(ho:o.op= .build t parts) (hz:Fx P t=some z)
 (hp:(∃fields,P.underlying t=some (.struct fields)/\(fields.toList.all fun f=>(sizeT P f.type).isSome)=true/\JV (JJ P fields) parts.toList=some ps)\/
  ∃n e s,P.underlying t=some (.array n e)/\sizeT P e=some s/\JV (fun i=>some (i*s,s)) parts.toList=some ps)
 (h:Hl ts (Bf z) ps=some l):Fj P I ρ o (.agg ⟨l⟩):=by
 have fm:=(CO hz default).2
 have hi:C5 I (Bf z):=Jo (Cg I z fm).2
 have hrz:AX I (Bf z)=Bf z:=by rw[<-Jj,(Cg I z fm).1]
 rcases hp with⟨fields,ht,hall,hc⟩|⟨n,e,s,ht,hs,hc⟩
 ·obtain⟨e1,i1⟩:=Oh hρ _ _ _ _ _ hc h hi
  refine⟨by simpa[In]using i1,fun w=>?_⟩
  rw[hrz]at e1
  have hm:=iH (P:=P) w (fun f:Field=>(do pure (f.offset,<-Go.sizeOf f.type):Sem (Nat × Nat))) (fun f=>(f.offset,(sizeT P f.type).getD 0)) fields (fun f hf=>by
   obtain⟨n,hn⟩:=Option.isSome_iff_exists.1 (List.all_eq_true.1 hall f hf)
   simp only[Sem.run_bind,Cs hn,Result.andThen_ok,Sem.run_pure,hn,Option.getD_some])
  have hpl:(fun i=>(⟨fields.toList.map fun f=>(f.offset,(sizeT P f.type).getD 0)⟩:Array (Nat × Nat))[i]?)=JJ P fields:=by
   funext i
   simp only[JJ,List.getElem?_toArray,List.getElem?_map,Array.getElem?_toList]
   cases hf:fields[i]? with
   |none=>rfl
   | some f=>
     obtain⟨n,hn⟩:=Option.isSome_iff_exists.1 (List.all_eq_true.1 hall f (by
      have:=Array.mem_of_getElem? hf
      simpa using this))
     simp[hn]
  simp only[execOp,ho,Instr.build,Sem.run_bind,(CO hz w).1,run_underlying ht,Result.andThen_ok,hm,hpl]
  simp[EI,e1,ren]
 ·obtain⟨e1,i1⟩:=Oh hρ _ _ _ _ _ hc h hi
  refine⟨by simpa[In]using i1,fun w=>?_⟩
  rw[hrz]at e1
  simp[execOp,ho,Instr.build,(CO hz w).1,run_underlying ht,Cs hs,EI,e1,ren]

end
end AE

/- Operations that touch nothing of the heap: comparisons with nil, slices, lengths. -/
namespace AE
open Go

section
variable {P:Program}{I:AZ}{ts:Ts}{ρ:Operand->Value}

theorem I7 {o:Oper}{xs:List Operand}(ho:o.op.operands.toList=xs) (h:∀x∈xs,∃x',Bw x=some x'):∀x∈o.op.operands,∃x',Bw x=some x':=fun x hx=>h x (by rw[<-ho];simpa using hx)

theorem QL (d:Nat) {t e:TypeId}(ht:P.underlying t=some (.pointer e)) (a b:Option Addr) (h:a.isNone=true\/b.isNone=true) (w:World):
 (Op.equalIn (d+1) t (.pointer a) (.pointer b)).run P w= .ok (a.isNone&&b.isNone) w:=by
 unfold Op.equalIn
 simp only[Sem.run_bind,run_underlying ht,Result.andThen_ok]
 cases a with
 |none=>simp
 | some a=>cases b with
   |none=>simp
   |some b=>simp at h
theorem R9 (d:Nat) {t e:TypeId}(ht:P.underlying t=some (.slice e)) (a b:Option Addr) (n1 c1 n2 c2:Nat) (h:a.isNone=true\/b.isNone=true) (w:World):
 (Op.equalIn (d+1) t (.slice a n1 c1) (.slice b n2 c2)).run P w= .ok (a.isNone&&b.isNone) w:=by
 unfold Op.equalIn
 simp only[Sem.run_bind,run_underlying ht,Result.andThen_ok]
 cases a with
 |none=>simp
 | some a=>cases b with
   |none=>simp
   |some b=>simp at h
theorem TY {t e:TypeId}(ht:P.underlying t=some (.pointer e)) (a b:Option Addr) (h:a.isNone=true\/b.isNone=true) (w:World):
 (Op.equal t (.pointer a) (.pointer b)).run P w= .ok (a.isNone&&b.isNone) w:=QL 9999 ht a b h w
theorem V4 {t e:TypeId}(ht:P.underlying t=some (.slice e)) (a b:Option Addr) (n1 c1 n2 c2:Nat) (h:a.isNone=true\/b.isNone=true) (w:World):
 (Op.equal t (.slice a n1 c1) (.slice b n2 c2)).run P w= .ok (a.isNone&&b.isNone) w:=R9 9999 ht a b n1 c1 n2 c2 h w

theorem mA {x:Value}{a:Option Addr}(e:x=ren I (.pointer a)) (i:In I (.pointer a)):∃a',x= .pointer a'/\a'.isNone=a.isNone:=by
 cases a with
 |none=>simp only[ren]at e;exact⟨_,e,rfl⟩
 | some a=>
   simp only[ren,In]at e i
   obtain⟨d,hd⟩:=Ek i
   exact⟨_,e,by simp[hd]⟩
theorem R4 {x:Value}{a:Option Addr}{n c:Nat}(e:x=ren I (.slice a n c)) (i:In I (.slice a n c)):∃a' c',x= .slice a' n c'/\a'.isNone=a.isNone:=by
 cases a with
 |none=>simp only[ren]at e;exact⟨_,_,e,rfl⟩
 | some a=>
   rcases Nat.lt_or_ge c far with hc|hc
   ·rw[CQ hc]at e
    rw[Dp hc]at i
    obtain⟨d,hd⟩:=Ek i.1
    exact⟨_,_,e,by simp[hd]⟩
   ·rw[Et hc]at e
    exact⟨_,_,e,rfl⟩

theorem mP {a:Option Nat}{x:Value}(e:x=ren I (.map a)):∃b,x= .map b/\b.isNone=a.isNone:=by
 cases a with
 |none=>exact⟨none,by simpa[ren]using e,rfl⟩
 |some r=>exact⟨some (I.blk r),by simpa only[ren]using e,rfl⟩
theorem T0 {t k e:TypeId}(ht:P.underlying t=some (.map k e)) (a b:Option Nat) (h:a.isNone=true\/b.isNone=true) (w:World):(Op.equal t (.map a) (.map b)).run P w= .ok (a.isNone&&b.isNone) w:=by
 unfold Op.equal Op.maxDepth Op.equalIn
 cases a<;>cases b<;>simp_all[run_underlying ht]

theorem R8 {t e:TypeId}(ht:P.underlying t=some (.pointer e)) {i:TypeInfo}(hi:P.info? e=some i) (a:Addr) (w:World):
 (Op.equal t (.pointer (some a)) (.pointer (some a))).run P w= .ok true w:=by
 have hs:(Go.sizeOf e).run P w= .ok i.size w:=by simp[Go.sizeOf,typeInfo,program,Sem.run,hi]
 show(Op.equalIn (9999+1) t _ _).run P w=_
 unfold Op.equalIn
 simp only[Sem.run_bind,run_underlying ht,Result.andThen_ok,hs]
 by_cases h0:i.size=0
 ·simp[h0]
 ·simp[h0,sameAddr]
theorem Ke (hρ:Ev I ts ρ) {o:Oper}{sl:Option Bool}{ne:Bool}{t t':TypeId}{x y:Operand}{x' y':BH}{v:Value}(ho:o.op= .binOp (if ne then .neq else .eql) t x y t')
 (ht:match sl with|some true=>∃e,P.underlying t=some (.slice e)|some false=>∃e,P.underlying t=some (.pointer e)|none=>∃k e,P.underlying t=some (.map k e)) (hx:Bw x=some x') (hy:Bw y=some y') (h:qY P sl ne ts x' y' o=some v):Fj P I ρ o v:=by
 have hpure:Ib P ts o=some v->Fj P I ρ o v:=fun hp=>Gu hρ (by simp[ho]) (I7 (xs:=[x,y]) (by simp[ho,Op.operands]) (by simp[hx,hy])) hp
 obtain⟨e1,i1⟩:=hρ x x' hx
 obtain⟨e2,i2⟩:=hρ y y' hy
 unfold qY at h
 split at h
 ·rename_i b hb
  simp at h;subst h
  refine⟨by simp[In],fun w=>?_⟩
  unfold pG at hb
  split at hb
  ·rename_i a c yw yu
   rw[yw]at e1 i1
   rw[yu]at e2 i2
   split at hb
   ·rename_i hc
    obtain⟨rfl,hc⟩:=hc
    simp only at ht
    obtain⟨e,ht⟩:=ht
    simp at hb;subst hb
    obtain⟨a',e1,n1⟩:=mA e1 i1
    obtain⟨c',e2,n2⟩:=mA e2 i2
    have hq:=TY (P:=P) ht a' c' (by rw[n1,n2];exact hc) w
    rw[n1,n2]at hq
    cases ne<;>simp[execOp,ho,e1,e2,eqGuard,binOp,hq,ren]
   ·simp at hb
  ·rename_i a k1 c1 c k2 c2 yw yu
   rw[yw]at e1 i1
   rw[yu]at e2 i2
   split at hb
   ·rename_i hc
    obtain⟨rfl,hc⟩:=hc
    simp only at ht
    obtain⟨e,ht⟩:=ht
    simp at hb;subst hb
    obtain⟨a',c1',e1,n1⟩:=R4 e1 i1
    obtain⟨c',c2',e2,n2⟩:=R4 e2 i2
    have hq:=V4 (P:=P) ht a' c' k1 c1' k2 c2' (by rw[n1,n2];exact hc) w
    rw[n1,n2]at hq
    cases ne<;>simp[execOp,ho,e1,e2,eqGuard,binOp,hq,ren]
   ·simp at hb
  ·rename_i a c yw yu
   rw[yw]at e1
   rw[yu]at e2
   split at hb
   ·rename_i hc
    obtain⟨rfl,hc⟩:=hc
    simp only at ht
    obtain⟨k,e,ht⟩:=ht
    simp at hb;subst hb
    obtain⟨a',e1,n1⟩:=mP e1
    obtain⟨c',e2,n2⟩:=mP e2
    have hq:=T0 (P:=P) ht a' c' (by rw[n1,n2];exact hc) w
    rw[n1,n2]at hq
    cases ne<;>simp[execOp,ho,e1,e2,eqGuard,binOp,hq,ren]
   ·simp at hb
  ·simp at hb
 ·split at h
  ·rename_i hsame
   simp at h;subst h
   refine⟨by simp[In],fun w=>?_⟩
   unfold dZ at hsame
   split at hsame
   ·rename_i a b yw yu
    simp only[Bool.and_eq_true,decide_eq_true_eq,beq_iff_eq]at hsame
    obtain⟨⟨rfl,rfl⟩,hi⟩:=hsame
    simp only at ht
    obtain⟨e,ht⟩:=ht
    rw[ho]at hi
    simp only[ht]at hi
    obtain⟨i,hi⟩:=Option.isSome_iff_exists.1 hi
    rw[yw]at e1 i1
    rw[yu]at e2
    simp only[ren,In]at e1 e2 i1
    obtain⟨d,hd⟩:=Ek i1
    rw[hd]at e1 e2
    have hq:=R8 (P:=P) ht hi d w
    cases ne<;>simp[execOp,ho,e1,e2,eqGuard,binOp,hq,ren]
   ·simp at hsame
  ·exact hpure h

theorem mW (hρ:Ev I ts ρ) {o:Oper}{t e:TypeId}{x:Operand}{x':BH}{v:Value}(ho:o.op= .call ⟨.builtin .len, #[x], #[t]⟩)
 (ht:P.underlying t=some (.slice e)) (hx:Bw x=some x') (h:kT (ev ts x')=some v):Fj P I ρ o v:=by
 obtain⟨e1,i⟩:=hρ x x' hx
 unfold kT at h
 split at h
 ·rename_i a n c ha
  simp at h;subst h
  refine⟨by simp[In],fun w=>?_⟩
  rw[ha]at e1
  obtain⟨a',c',e', -⟩:=R4 e1 (by rw[ha]at i;exact i)
  simp[execOp,ho,resolve,invoke,builtin,Builtin.len_,e',run_underlying ht,goInt,ren]
 ·simp at h
theorem Yo (hρ:Ev I ts ρ) {o:Oper}{t:TypeId}{x:Operand}{x':BH}{v:Value}(ho:o.op= .call ⟨.builtin .len, #[x], #[t]⟩)
 (ht:P.underlying t=some .string) (hx:Bw x=some x') (h:VA (ev ts x')=some v):Fj P I ρ o v:=by
 obtain⟨e,i⟩:=hρ x x' hx
 unfold VA at h
 split at h
 ·rename_i s hs
  rw[hs]at e
  simp only[ren]at e
  simp at h;subst h
  refine⟨by simp[In],fun w=>?_⟩
  simp[execOp,ho,resolve,invoke,builtin,Builtin.len_,e,run_underlying ht,goInt,ren]
 ·simp at h
theorem mY (hρ:Ev I ts ρ) {o:Oper}{t e:TypeId}{x:Operand}{x':BH}{v:Value}(ho:o.op= .call ⟨.builtin .cap, #[x], #[t]⟩)
 (ht:P.underlying t=some (.slice e)) (hx:Bw x=some x') (h:wO (ev ts x')=some v):Fj P I ρ o v:=by
 obtain⟨e1,i⟩:=hρ x x' hx
 unfold wO at h
 split at h
 ·rename_i n c ha
  simp at h;subst h
  rw[ha]at e1
  simp only[ren]at e1
  refine⟨by simp[In],fun w=>?_⟩
  simp[execOp,ho,resolve,invoke,builtin,Builtin.cap_,e1,run_underlying ht,goInt,ren]
 ·rename_i a n c ha
  rw[ha]at e1
  split at h
  ·simp at h
  rename_i hcf
  rw[CQ (Nat.not_le.1 hcf)]at e1
  simp only[CH]at e1
  split at h
  ·rename_i hs
   simp at h;subst h
   rw[hs]at e1
   refine⟨by simp[In],fun w=>?_⟩
   simp[execOp,ho,resolve,invoke,builtin,Builtin.cap_,e1,run_underlying ht,goInt,ren]
  ·rename_i g hs
   split at h<;>simp at h
   rename_i hc
   subst h
   rw[hs]at e1
   simp only[hc,if_true]at e1
   refine⟨by simp[In],fun w=>?_⟩
   simp[execOp,ho,resolve,invoke,builtin,Builtin.cap_,e1,run_underlying ht,goInt,ren]
 ·simp at h


theorem I5 {d:Nat}{o:Option Value}{i:Nat}(h:CM d o=some i):(o=none/\i=d)\/∃v k,o=some v/\ren I v= .int k (i:Int):=by
 cases o with
 |none=>simp[CM]at h;exact .inl ⟨rfl,h.symm⟩
 | some v=>
   obtain⟨k,hk⟩:=Hu (I:=I) (by simpa[CM]using h)
   exact .inr ⟨v,k,rfl,hk⟩

theorem Gb {b:Bool}{len cap l hi m:Nat}{lo ho mo:Option Value}(hl:CM 0 lo=some l) (hh:CM len ho=some hi) (hm:CM cap mo=some m) (vL:mo.isSome->ho.isSome) (h1:m<=cap) (h2:hi<=m) (h3:l<=hi) (w:World):
 (Instr.sliceBounds b len cap (lo.map (ren I)) (ho.map (ren I)) (mo.map (ren I))).run P w= .ok (l,hi,m) w:=by
 rcases I5 (I:=I) hm with⟨rfl,rfl⟩|⟨vm,km,rfl,em⟩
 ·rcases I5 (I:=I) hh with⟨rfl,rfl⟩|⟨vh,kh,rfl,eh⟩<;>rcases I5 (I:=I) hl with⟨rfl,rfl⟩|⟨vl,kl,rfl,el⟩<;>
   simp[Instr.sliceBounds,Instr.sliceBound,asIntOf, *]<;>(try split)<;>simp_all<;>omega
 ·rcases I5 (I:=I) hh with⟨rfl,rfl⟩|⟨vh,kh,rfl,eh⟩
  ·simp at vL
  ·rcases I5 (I:=I) hl with⟨rfl,rfl⟩|⟨vl,kl,rfl,el⟩<;>
    simp[Instr.sliceBounds,Instr.sliceBound,asIntOf, *]<;>(try split)<;>simp_all<;>omega


theorem R6 {a b:Addr}(ha:Nm I a) (hb:Ew I a=some b) (l m sz:Nat):
 Nm I (Dy a l m sz)/\Ew I (Dy a l m sz)=some (if m=l then b else b.add (l*sz)):=by
 unfold Dy
 split
 ·exact⟨ha,hb⟩
 ·obtain⟨i,e⟩:=J6 ha (l*sz)
  exact⟨i,by rw[e,hb];rfl⟩

theorem E7 (hρ:Ev I ts ρ) {o:Option Operand}{o':Option BH}(h:JL o=some o'):o.map ρ=(KU ts o').map (ren I):=by
 cases o with
 |none=>simp[JL]at h;subst h;rfl
 | some x=>
   simp only[JL,Option.map_eq_some_iff]at h
   obtain⟨x',hx,rfl⟩:=h
   simp[KU,(hρ x x' hx).1]
theorem OW {_o:Option Operand}{o':Option BH}:(KU ts o').isSome=o'.isSome:=by cases o'<;>simp[KU]

theorem aT (hρ:Ev I ts ρ) {o:Oper}{t e:TypeId}{n sz:Nat}{x:Operand}{lo hi mx:Option Operand}{x':BH}{lo' hi' mx':Option BH}{v:Value}(ho:o.op= .slice t x lo hi mx) (ht:P.underlying t=some (.array n e))
 (hsz:sizeT P e=some sz) (hx:Bw x=some x') (hlo:JL lo=some lo') (hhi:JL hi=some hi') (hmx:JL mx=some mx') (vL:mx'.isSome->hi'.isSome)
 (h:Ls n sz (KU ts lo') (KU ts hi') (KU ts mx') (ev ts x')=some v):Fj P I ρ o v:=by
 obtain⟨e1,i1⟩:=hρ x x' hx
 unfold Ls at h
 split at h
 ·rename_i a ha
  rw[ha]at e1 i1
  simp only[ren,In]at e1 i1
  unfold Ee at h
  split at h
  ·rename_i l hi m hl hh hm
   split at h<;>simp at h
   rename_i hc
   subst h
   obtain⟨b,hb⟩:=Ek i1
   rw[hb]at e1
   obtain⟨ia,ea⟩:=R6 i1 hb l m sz
   refine⟨?_,fun w=>?_⟩
   ·rw[Dp hc.2.2.2]
    refine⟨ia,?_⟩
    have hs:(Dy a l m sz).spot=a.spot:=by unfold Dy;split<;>rfl
    unfold E4 fI
    rw[hs]
    cases a.spot with
    |none=>simp[enc1];omega
    |some g=>simp[enc2,Nat.add_mod];omega
   ·have hb3:=Gb (P:=P) (I:=I) (b:=false) hl hh hm (by rw[OW (_o:=mx),OW (_o:=mx)];exact vL) hc.1 hc.2.1 hc.2.2.1 w
    have hs:(Dy a l m sz).spot=a.spot:=by unfold Dy;split<;>rfl
    have hcap:CH I (Dy a l m sz) (fI a.spot (m - l))=m - l:=by
     unfold CH fI
     rw[hs]
     cases a.spot with
     |none=>simp[enc1]
     |some g=>simp[enc2,Nat.add_mod];omega
    simp only[execOp,ho,e1,Instr.sliceAt,Sem.run_bind,run_underlying ht,Result.andThen_ok,Instr.sureAddr,Sem.run_pure,E7 hρ hlo,E7 hρ hhi,E7 hρ hmx,hb3,Cs hsz,CQ hc.2.2.2,ea,hcap]
  ·simp at h
 ·simp at h

theorem i7 (hρ:Ev I ts ρ) {o:Oper}{t e:TypeId}{sz:Nat}{x:Operand}{lo hi mx:Option Operand}{x':BH}{lo' hi' mx':Option BH}{v:Value}(ho:o.op= .slice t x lo hi mx) (ht:P.underlying t=some (.slice e))
 (hsz:sizeT P e=some sz) (hx:Bw x=some x') (hlo:JL lo=some lo') (hhi:JL hi=some hi') (hmx:JL mx=some mx') (vL:mx'.isSome->hi'.isSome)
 (h:HL sz (KU ts lo') (KU ts hi') (KU ts mx') (ev ts x')=some v):Fj P I ρ o v:=by
 obtain⟨e1,i1⟩:=hρ x x' hx
 have tP:(KU ts mx').isSome->(KU ts hi').isSome:=by rw[OW (_o:=mx),OW (_o:=mx)];exact vL
 unfold HL at h
 split at h
 ·rename_i a len cap ha
  rw[ha]at e1 i1
  split at h
  ·split at h<;>try simp at h
   rename_i hc1 hc2
   subst hc2
   obtain⟨hl0, -⟩:=(Mj (Nat.le_refl _)).1 i1
   subst hl0
   rw[Et (Nat.le_refl _),Ko,Kn]at e1
   unfold lW at h
   split at h<;>try simp at h
   rename_i l hi m hl hh hm
   obtain⟨⟨rfl,rfl,rfl⟩,rfl⟩:=h
   refine⟨i1,fun w=>?_⟩
   have hb3:=Gb (P:=P) (I:=I) (b:=true) hl hh hm tP (by omega) (by omega) (by omega) w
   simp only[execOp,ho,e1,Instr.sliceAt,Instr.slice,Sem.run_bind,run_underlying ht,Result.andThen_ok,Sem.run_pure,E7 hρ hlo,E7 hρ hhi,E7 hρ hmx,hb3,Cs hsz,Et (Nat.le_refl far),Ko,Kn,Option.map_some]
   rfl
  rename_i hcf
  rw[CQ (Nat.not_le.1 hcf)]at e1
  rw[Dp (Nat.not_le.1 hcf)]at i1
  obtain⟨b,hb⟩:=Ek i1.1
  rw[hb]at e1
  -- whatever the capacity c: bounds that fit give the slice
  have main:∀(l hi m c:Nat) (cap':Nat),CH I a cap=c->CM 0 (KU ts lo')=some l->CM len (KU ts hi')=some hi->CM c (KU ts mx')=some m->m<=c->hi<=m->l<=hi->cap'<far->
   E4 I (Dy a l m sz) (hi - l) cap'->CH I (Dy a l m sz) cap'=m - l->Fj P I ρ o (.slice (some (Dy a l m sz)) (hi - l) cap'):=by
   intro l hi m c cap' hcap hl hh hm h1 h2 h3 MW hin hrc
   obtain⟨ia,ea⟩:=R6 i1.1 hb l m sz
   refine⟨by rw[Dp MW];exact⟨ia,hin⟩,fun w=>?_⟩
   have hb3:=Gb (P:=P) (I:=I) (b:=true) hl hh hm tP h1 h2 h3 w
   simp only[execOp,ho,e1,Instr.sliceAt,Instr.slice,Sem.run_bind,run_underlying ht,Result.andThen_ok,Sem.run_pure,E7 hρ hlo,E7 hρ hhi,E7 hρ hmx,hcap,hb3,Cs hsz,CQ MW,ea,hrc,Option.map_some]
   split<;>rfl
  have hspot:∀l m,(Dy a l m sz).spot=a.spot:=fun l m=>by unfold Dy;split<;>rfl
  have hblk:∀l m,(Dy a l m sz).block=a.block:=fun l m=>by unfold Dy;split<;>rfl
  split at h
  ·rename_i hs
   unfold Ee at h
   split at h
   ·rename_i l hi m hl hh hm
    split at h<;>simp at h
    rename_i hc
    subst h
    refine main l hi m cap _ (by unfold CH;rw[hs]) hl hh hm hc.1 hc.2.1 hc.2.2.1 hc.2.2.2 ?_ ?_
    ·unfold E4;rw[hspot,hs];simp[enc1];omega
    ·unfold CH;rw[hspot,hs];simp[enc1]
   ·simp at h
  ·rename_i g hs
   unfold R5 at h
   have hin:=i1.2
   unfold E4 at hin
   rw[hs]at hin
   split at h
   ·rename_i hodd
    unfold Ee at h
    split at h
    ·rename_i l hi m hl hh hm
     split at h<;>simp at h
     rename_i hc
     subst h
     refine main l hi m (cap / 2) _ (by unfold CH;rw[hs];simp[hodd]) hl hh hm hc.1 hc.2.1 hc.2.2.1 hc.2.2.2 ?_ ?_
     ·unfold E4;rw[hspot,hs];simp[enc2,Nat.add_mod];omega
     ·unfold CH;rw[hspot,hs];simp[enc2,Nat.add_mod];omega
    ·simp at h
   ·rename_i fx
    simp only[fx,if_false]at hin
    have hcap:CH I a cap=I.cap a.block g - cap / 2:=by unfold CH;rw[hs];simp[fx]
    split at h
    ·rename_i hmn
     unfold VT at h
     split at h
     ·rename_i l hi hl hh
      have hm:CM (I.cap a.block g - cap / 2) (KU ts mx')=some (I.cap a.block g - cap / 2):=by rw[hmn];rfl
      split at h
      rotate_left
      ·split at h<;>simp at h
       rename_i hc
       subst h
       obtain⟨h1,h2,h3,h4⟩:=hc
       subst h2
       have hk:Qk (cap / 2+l) (l*sz) - far - 1=(cap / 2+l) *4294967296+l*sz:=by unfold Qk;omega
       have hD:((cap / 2+l) *4294967296+l*sz) / 4294967296=cap / 2+l:=by omega
       have hO:((cap / 2+l) *4294967296+l*sz)%4294967296=l*sz:=by omega
       have MW:far<=Qk (cap / 2+l) (l*sz):=by unfold Qk;omega
       have hne:Qk (cap / 2+l) (l*sz)≠far:=by unfold Qk;omega
       refine⟨by rw[Mj MW];exact⟨rfl,.inr i1.1⟩,fun w=>?_⟩
       have hb3:=Gb (P:=P) (I:=I) (b:=true) hl hh hm tP (by omega) (by omega) (by omega) w
       simp only[execOp,ho,e1,Instr.sliceAt,Instr.slice,Sem.run_bind,run_underlying ht,Result.andThen_ok,Sem.run_pure,E7 hρ hlo,E7 hρ hhi,E7 hρ hmx,hcap,hb3,Cs hsz,Et MW,Option.map_some]
       unfold oW oV
       rw[if_neg hne,if_neg hne,hs,hk]
       dsimp only
       rw[hD,hO,hb]
       by_cases hlm:I.cap a.block g - cap / 2=l
       ·rw[if_pos (by omega)]
        simp only[Option.getD_some,Nat.sub_self]
        rw[show I.cap a.block g - cap / 2 - l=I.cap a.block g - (cap / 2+l) by omega]
        rw[if_pos (show I.cap a.block g=cap / 2+l by omega)]
       ·rw[if_neg (by omega)]
        simp only[Option.getD_some,Nat.sub_self]
        rw[show I.cap a.block g - cap / 2 - l=I.cap a.block g - (cap / 2+l) by omega]
        rw[if_neg (show¬I.cap a.block g=cap / 2+l by omega)]
      simp at h
      rename_i hc
      subst h
      by_cases hlm:I.cap a.block g - cap / 2=l
      ·have hl0:l=0:=by omega
       subst hl0
       have:=main 0 hi 0 (I.cap a.block g - cap / 2) (cap+2*0) hcap hl hh (by rw[hm,hlm]) (by omega) (by omega) (by omega) hc.2.2.2
       simp only[Dy,if_true]at this
       have e0:BI a (0*sz)=a:=by cases a;simp[BI]
       rw[e0]
       refine this ?_ ?_
       ·unfold E4;rw[hs];simp[fx];omega
       ·unfold CH;rw[hs];simp[fx];omega
      ·have:=main l hi (I.cap a.block g - cap / 2) (I.cap a.block g - cap / 2) (cap+2*l) hcap hl hh hm (by omega) (by omega) (by omega) hc.2.2.2
       simp only[Dy,if_neg hlm]at this
       refine this ?_ ?_
       ·unfold E4;simp only[BI,hs];rw[if_neg (by omega)];omega
       ·unfold CH;simp only[BI,hs];rw[if_neg (by omega)];omega
     ·simp at h
    ·rename_i mv hmv
     unfold Ee at h
     split at h
     ·rename_i l hi m hl hh hm
      split at h<;>simp at h
      rename_i hc
      subst h
      refine main l hi m _ _ hcap hl hh (by rw[hmv];exact hm) (by omega) hc.2.1 hc.2.2.1 hc.2.2.2 ?_ ?_
      ·unfold E4;rw[hspot,hs];simp[enc2,Nat.add_mod];omega
      ·unfold CH;rw[hspot,hs];simp[enc2,Nat.add_mod];omega
     ·simp at h
 ·rename_i ha
  rw[ha]at e1 i1
  simp only[ren]at e1
  unfold lV at h
  split at h
  ·rename_i l hi m hl hh hm
   split at h<;>simp at h
   rename_i hc
   obtain⟨rfl,rfl,rfl⟩:=hc
   subst h
   refine⟨by simp[In],fun w=>?_⟩
   have hb3:=Gb (P:=P) (I:=I) (b:=true) hl hh hm tP (by omega) (by omega) (by omega) w
   simp[execOp,ho,e1,Instr.sliceAt,Instr.slice,run_underlying ht,E7 hρ hlo,E7 hρ hhi,E7 hρ hmx,hb3,Cs hsz,ren]
  ·simp at h
 ·simp at h

end
end AE

/- Light operations, all of them: by what the loaded operation is. -/
namespace AE
open Go

section
variable {P:Program}{I:AZ}{ts:Ts}{ρ:Operand->Value}

theorem Bi {h h':H}{o:Option Value}{v:Value}(e:keep h o=some (v,h')):o=some v/\h'=h:=by
 unfold keep at e
 simp only[Option.map_eq_some_iff,Prod.mk.injEq]at e
 obtain⟨u,hu,rfl,rfl⟩:=e
 exact⟨hu,rfl⟩

theorem Vp:∀(xs:List Operand) (ys:List BH),HT xs=some ys->∀x∈xs,∃x',Bw x=some x'
 |[],_,_,x,hx=>by simp at hx
 | y::xs,ys,h,x,hx=>by
   simp only[HT,Option.bind_eq_some_iff,Option.map_eq_some_iff]at h
   obtain⟨y',hy,zs,hz,rfl⟩:=h
   rcases List.mem_cons.1 hx with rfl|hx
   ·exact⟨y',hy⟩
   ·exact Vp xs zs hz x hx

theorem pR {c:Call}{b:Builtin}{x:Operand}{t:TypeId}(hb:c.callee= .builtin b) (hx:c.args.toList=[x]) (ht:c.argTypes.toList=[t]):c=⟨.builtin b, #[x], #[t]⟩:=by
 obtain⟨ce,as,ty⟩:=c
 cases as;cases ty
 simp at hb hx ht
 subst hb;subst hx;subst ht;rfl
theorem wB {c:Call}{b:Builtin}{x y:Operand}{t u:TypeId}(hb:c.callee= .builtin b) (hx:c.args.toList=[x,y]) (ht:c.argTypes.toList=[t,u]):c=⟨.builtin b, #[x,y], #[t,u]⟩:=by
 obtain⟨ce,as,ty⟩:=c
 cases as;cases ty
 simp at hb hx ht
 subst hb;subst hx;subst ht;rfl

theorem jh (hρ:Ev I ts ρ) {o:Oper}{op:BinOp}{t t':TypeId}{x y:Operand}{ao:B9}{lo Br:Nat}{h h':H}{v:Value}(ho:o.op= .binOp op t x y t') (hc:pW P o op t x y=some ao)
 (ha:C6 P lo Br ts h ao=some (v,h')):h'=h/\Fj P I ρ o v:=by
 unfold pW at hc
 simp only[Option.bind_eq_some_iff]at hc
 obtain⟨x',hx,y',hy,hc⟩:=hc
 have hpure:∀{h':H} {v:Value},C6 P lo Br ts h (.pure o)=some (v,h')->h'=h/\Fj P I ρ o v:=fun hp=>by
  obtain⟨EM,rfl⟩:=Bi hp
  exact⟨rfl,Gu hρ (by simp[ho]) (I7 (xs:=[x,y]) (by simp[ho,Op.operands]) (by simp[hx,hy])) EM⟩
 split at hc
 ·split at hc
  ·rename_i i hi
   simp at hc;subst hc
   obtain⟨EM,rfl⟩:=Bi ha
   exact⟨rfl,mX hρ ho hi hx hy EM⟩
  ·split at hc
   ·simp at hc;subst hc
    obtain⟨EM,rfl⟩:=Bi ha
    exact⟨rfl,US hρ ho rfl hx hy EM⟩
   ·simp at hc;subst hc
    obtain⟨EM,rfl⟩:=Bi ha
    exact⟨rfl,US hρ ho rfl hx hy EM⟩
   ·simp at hc;subst hc
    exact hpure ha
 ·rename_i e ht
  split at hc<;>simp at hc<;>subst hc
  ·obtain⟨EM,rfl⟩:=Bi ha
   exact⟨rfl,Ke hρ (sl:=some false) (ne:=false) (by simpa using ho) (by simp[ht]) hx hy EM⟩
  ·obtain⟨EM,rfl⟩:=Bi ha
   exact⟨rfl,Ke hρ (sl:=some false) (ne:=true) (by simpa using ho) (by simp[ht]) hx hy EM⟩
  ·exact hpure ha
 ·rename_i e ht
  split at hc<;>simp at hc<;>subst hc
  ·obtain⟨EM,rfl⟩:=Bi ha
   exact⟨rfl,Ke hρ (sl:=some true) (ne:=false) (by simpa using ho) (by simp[ht]) hx hy EM⟩
  ·obtain⟨EM,rfl⟩:=Bi ha
   exact⟨rfl,Ke hρ (sl:=some true) (ne:=true) (by simpa using ho) (by simp[ht]) hx hy EM⟩
  ·exact hpure ha
 ·rename_i k e ht
  split at hc<;>simp at hc<;>subst hc
  ·obtain⟨EM,rfl⟩:=Bi ha
   exact⟨rfl,Ke hρ (sl:=none) (ne:=false) (by simpa using ho) (by simp[ht]) hx hy EM⟩
  ·obtain⟨EM,rfl⟩:=Bi ha
   exact⟨rfl,Ke hρ (sl:=none) (ne:=true) (by simpa using ho) (by simp[ht]) hx hy EM⟩
  ·exact hpure ha
 ·simp at hc;subst hc
  exact hpure ha

theorem aY (hρ:Ev I ts ρ) {o:Oper}{c:Call}{ao:B9}{lo Br:Nat}{h h':H}{v:Value}(ho:o.op= .call c) (hc:Tv P o c=some (.op ao)) (hl:ao.light=true) (hf:ao.fresh=false)
 (ha:C6 P lo Br ts h ao=some (v,h')):h'=h/\Fj P I ρ o v:=by
 unfold Tv at hc
 split at hc
 ·simp only[Option.bind_eq_some_iff,Option.map_eq_some_iff]at hc
  obtain⟨_,_,_,_,hc⟩:=hc
  simp at hc
 ·split at hc
  ·simp only[Option.map_eq_some_iff]at hc
   obtain⟨_,_,hc⟩:=hc
   simp at hc
  ·simp at hc
 ·rename_i b hb
  split at hc
  ·rename_i x t hx ht
   simp only[Option.bind_eq_some_iff]at hc
   obtain⟨x',hx',hc⟩:=hc
   have hcc:=pR hb hx ht
   split at hc<;>simp at hc<;>first
    |(subst hc;simp[B9.light]at hl;done)
    |(obtain⟨_,_,hc⟩:=hc;subst hc;simp[B9.light]at hl;done)
    |(subst hc;simp[B9.light]at hl)
    |skip
   ·obtain⟨EM,rfl⟩:=Bi ha
    exact⟨rfl,mW hρ (by rw[ho,hcc]) (by assumption) hx' EM⟩
   ·obtain⟨EM,rfl⟩:=Bi ha
    exact⟨rfl,Yo hρ (by rw[ho,hcc]) (by assumption) hx' EM⟩
   ·obtain⟨EM,rfl⟩:=Bi ha
    exact⟨rfl,mY hρ (by rw[ho,hcc]) (by assumption) hx' EM⟩
  ·rename_i x y t u hx ht
   simp only[Option.bind_eq_some_iff]at hc
   obtain⟨x',hx',y',hy',hc⟩:=hc
   have hcc:=wB hb hx ht
   have hpure:∀{h':H} {v:Value},C6 P lo Br ts h (.pure o)=some (v,h')->h'=h/\Fj P I ρ o v:=fun hp=>by
    obtain⟨EM,rfl⟩:=Bi hp
    exact⟨rfl,Gu hρ (by simp[ho]) (I7 (xs:=[x,y]) (by simp[ho,hcc,Op.operands,Call.operands]) (by simp[hx',hy'])) EM⟩
   split at hc
   ·split at hc
    ·simp at hc
    ·simp only[Option.bind_eq_some_iff]at hc
     obtain⟨ie,_,z,_,hc⟩:=hc
     split at hc<;>simp at hc
     subst hc;simp[B9.light]at hl
    ·simp at hc
   ·simp only[Option.map_eq_some_iff]at hc
    obtain⟨s,_,hc⟩:=hc
    simp at hc;subst hc;simp[B9.light]at hl
   ·simp at hc;subst hc;simp[B9.light]at hl
   ·simp at hc;subst hc
    obtain⟨EM,rfl⟩:=Bi ha
    exact⟨rfl,UR hρ (m:=false) (by simp;rfl) (by rw[ho,hcc]) hx' hy' EM⟩
   ·simp at hc;subst hc
    obtain⟨EM,rfl⟩:=Bi ha
    exact⟨rfl,UR hρ (m:=true) (by simp;rfl) (by rw[ho,hcc]) hx' hy' EM⟩
   ·simp at hc;subst hc;exact hpure ha
   ·simp at hc;subst hc;exact hpure ha
   ·simp at hc
  ·split at hc
   all_goals first
    |(simp at hc;done)
    | (simp only[Option.map_eq_some_iff]at hc
       obtain⟨ys,hys,hc⟩:=hc
       simp at hc;subst hc
       obtain⟨EM,rfl⟩:=Bi ha
       exact⟨rfl,Gu hρ (by simp[ho]) (I7 (xs:=c.args.toList) (by simp[ho,Op.operands,Call.operands,hb]) (Vp _ _ hys)) EM⟩)

theorem kx (hρ:Ev I ts ρ) {o:Oper}{ao:B9}{lo Br:Nat}{h h':H}{v:Value}(hc:comp P o=some (.op ao)) (hl:ao.light=true) (hf:ao.fresh=false)
 (ha:C6 P lo Br ts h ao=some (v,h')):h'=h/\Fj P I ρ o v:=by
 have hc:=W6 hc (by rintro rfl;simp[C6]at ha)
 unfold O4 at hc
 cases ho:o.op<;>rw[ho]at hc<;>simp only[Option.bind_eq_some_iff,Option.map_eq_some_iff,reduceCtorEq]at hc
 case move x=>
  obtain⟨x',hx,hc⟩:=hc
  simp at hc;subst hc
  simp[C6]at ha
  obtain⟨rfl,rfl⟩:=ha
  exact⟨rfl,eV hρ (.inl ho) hx⟩
 case assign x=>
  obtain⟨x',hx,hc⟩:=hc
  simp at hc;subst hc
  simp[C6]at ha
  obtain⟨rfl,rfl⟩:=ha
  exact⟨rfl,eV hρ (.inr ho) hx⟩
 case pick c a b=>
  obtain⟨c',hc',a',ha',b',hb',hc⟩:=hc
  simp at hc;subst hc
  obtain⟨EM,rfl⟩:=Bi ha
  exact⟨rfl,i9 hρ ho hc' ha' hb' EM⟩
 case alloc=>obtain⟨_,_,hc⟩:=hc;simp at hc;subst hc;simp[B9.fresh]at hf
 case box=>obtain⟨_,_,hc⟩:=hc;simp at hc;subst hc;simp[B9.fresh]at hf
 case build t parts=>
  obtain⟨z,hz,hc⟩:=hc
  split at hc
  ·rename_i fields ht
   split at hc
   ·rename_i hall
    simp only[Option.map_eq_some_iff]at hc
    obtain⟨ps,hps,hc⟩:=hc
    simp at hc;subst hc
    obtain⟨EM,rfl⟩:=Bi ha
    simp only[Option.map_eq_some_iff]at EM
    obtain⟨l,hl',rfl⟩:=EM
    exact⟨rfl,SJ hρ ho hz (.inl ⟨_,ht,hall,hps⟩) hl'⟩
   ·simp at hc
  ·rename_i n e ht
   simp only[Option.bind_eq_some_iff,Option.map_eq_some_iff]at hc
   obtain⟨s,hs,ps,hps,hc⟩:=hc
   simp at hc;subst hc
   obtain⟨EM,rfl⟩:=Bi ha
   simp only[Option.map_eq_some_iff]at EM
   obtain⟨l,hl',rfl⟩:=EM
   exact⟨rfl,SJ hρ ho hz (.inr ⟨_,_,_,ht,hs,hps⟩) hl'⟩
  ·simp at hc
 case buildSlice t len parts=>
  split at hc
  ·simp only[Option.bind_eq_some_iff]at hc
   obtain⟨_,_,_,_,hc⟩:=hc
   split at hc
   ·simp only[Option.map_eq_some_iff]at hc
    obtain⟨_,_,hc⟩:=hc
    simp at hc;subst hc;simp[B9.fresh]at hf
   ·simp at hc
  ·simp at hc
 case load t a=>
  obtain⟨a',_,hc⟩:=hc
  split at hc
  ·simp only[Option.map_eq_some_iff]at hc
   obtain⟨_,_,hc⟩:=hc
   simp at hc;subst hc;simp[B9.light]at hl
  ·simp at hc;subst hc;simp[B9.light]at hl
  ·simp at hc
 case store t a x=>obtain⟨_,_,_,_,_,_,hc⟩:=hc;simp at hc;subst hc;simp[B9.light]at hl
 case nilCheck x=>
  obtain⟨x',hx,hc⟩:=hc
  simp at hc;subst hc
  obtain⟨EM,rfl⟩:=Bi ha
  exact⟨rfl,aU hρ ho hx EM⟩
 case binOp op t x y t'=>
  obtain⟨ao',hb,hc⟩:=hc
  simp at hc;subst hc
  exact jh hρ ho hb ha
 case unOp op t x=>
  obtain⟨x',hx,hc⟩:=hc
  split at hc<;>simp at hc<;>subst hc
  ·obtain⟨EM,rfl⟩:=Bi ha
   exact⟨rfl,mU hρ ho hx EM⟩
  ·obtain⟨EM,rfl⟩:=Bi ha
   exact⟨rfl,mV hρ ho hx EM⟩
  ·obtain⟨EM,rfl⟩:=Bi ha
   exact⟨rfl,Gu hρ (by simp[ho]) (I7 (xs:=[x]) (by simp[ho,Op.operands]) (by simp[hx])) EM⟩
 case convert s d x=>
  obtain⟨x',hx,hc⟩:=hc
  split at hc
  ·simp at hc;subst hc
   obtain⟨EM,rfl⟩:=Bi ha
   exact⟨rfl,jf hρ ho (by assumption) (by assumption) hx EM⟩
  ·split at hc
   ·simp at hc;subst hc;simp[B9.light]at hl
   ·simp at hc
  ·simp at hc;subst hc
   obtain⟨EM,rfl⟩:=Bi ha
   exact⟨rfl,Gu hρ (by simp[ho]) (I7 (xs:=[x]) (by simp[ho,Op.operands]) (by simp[hx])) EM⟩
 case makeInterface t x=>
  split at hc
  ·simp at hc
  ·rename_i d hd ht
   simp only[Option.map_eq_some_iff]at hc
   obtain⟨x',hx,hc⟩:=hc
   simp at hc;subst hc
   simp[C6]at ha
   obtain⟨rfl,rfl⟩:=ha
   exact⟨rfl,ja hρ ho ht (fun m e=>hd m e) hx⟩
  ·simp at hc
 case makeFunc fn fs cs=>
  split at hc
  ·rename_i hfl
   simp only[Option.bind_eq_some_iff,Option.map_eq_some_iff]at hc
   obtain⟨f',hf',c',hc',hc⟩:=hc
   simp at hc;subst hc
   simp[C6]at ha
   obtain⟨rfl,rfl⟩:=ha
   exact⟨rfl,jb hρ ho hfl hf' hc'⟩
  ·simp at hc
 case makeMap t r=>cases r<;>simp at hc;subst hc;simp[B9.fresh]at hf
 case makeSlice t l c=>
  split at hc
  ·simp only[Option.bind_eq_some_iff]at hc
   obtain⟨_,_,_,_,hc⟩:=hc
   split at hc
   ·simp only[Option.bind_eq_some_iff,Option.map_eq_some_iff]at hc
    obtain⟨_,_,_,_,hc⟩:=hc
    simp at hc;subst hc;simp[B9.fresh]at hf
   ·simp at hc
  ·simp at hc
 case slice t x lo' hi mx=>
  obtain⟨x',hx,Aog,hlo,hi',hhi,mx',hmx,hc⟩:=hc
  split at hc
  ·simp at hc
  ·rename_i hn
   have vL:mx'.isSome->hi'.isSome:=by cases mx'<;>cases hi'<;>simp_all
   split at hc
   ·rename_i n e ht
    simp only[Option.map_eq_some_iff]at hc
    obtain⟨s,hs,hc⟩:=hc
    simp at hc;subst hc
    obtain⟨EM,rfl⟩:=Bi ha
    exact⟨rfl,aT hρ ho ht hs hx hlo hhi hmx vL EM⟩
   ·rename_i e ht
    simp only[Option.map_eq_some_iff]at hc
    obtain⟨s,hs,hc⟩:=hc
    simp at hc;subst hc
    obtain⟨EM,rfl⟩:=Bi ha
    exact⟨rfl,i7 hρ ho ht hs hx hlo hhi hmx vL EM⟩
   ·simp at hc;subst hc
    obtain⟨EM,rfl⟩:=Bi ha
    refine⟨rfl,Gu hρ (by simp[ho]) ?_ EM⟩
    intro y hy
    simp only[ho,Op.operands,Array.mem_append,Option.mem_toArray]at hy
    have hO:∀{o:Option Operand} {o':Option BH},JL o=some o'->∀z,o=some z->∃z',Bw z=some z':=by
     intro o o' h z hz
     subst hz
     simp only[JL,Option.map_eq_some_iff]at h
     obtain⟨z',hz', -⟩:=h
     exact⟨z',hz'⟩
    rcases hy with((hy|hy)|hy)|hy
    ·simp at hy;subst hy;exact⟨x',hx⟩
    ·exact hO hlo y hy
    ·exact hO hhi y hy
    ·exact hO hmx y hy
   ·simp at hc
 case fieldAddr s x f=>
  split at hc
  ·rename_i fields hs
   simp only[Option.bind_eq_some_iff]at hc
   obtain⟨fd,qL,n,hn,hc⟩:=hc
   split at hc
   ·simp at hc
   ·rename_i hn0
    simp only[Option.map_eq_some_iff]at hc
    obtain⟨x',hx,hc⟩:=hc
    simp at hc;subst hc
    obtain⟨EM,rfl⟩:=Bi ha
    exact⟨rfl,aW hρ ho hs qL hn hn0 hx EM⟩
  ·simp at hc
 case field t x f=>
  split at hc
  ·rename_i fields hs
   simp only[Option.bind_eq_some_iff]at hc
   obtain⟨fd,qL,x',hx,hc⟩:=hc
   split at hc
   ·rename_i hag
    simp only[Option.map_eq_some_iff]at hc
    obtain⟨n,hn,hc⟩:=hc
    simp at hc;subst hc
    obtain⟨EM,rfl⟩:=Bi ha
    exact⟨rfl,Yp hρ ho hs qL hag hn hx EM⟩
   ·rename_i hag
    simp at hc;subst hc
    obtain⟨EM,rfl⟩:=Bi ha
    exact⟨rfl,Yq hρ ho hs qL hag hx EM⟩
   ·simp at hc
  ·simp at hc
 case indexAddr t x i=>
  obtain⟨x',hx,i',hi,hc⟩:=hc
  split at hc
  ·rename_i n e ht
   simp only[Option.map_eq_some_iff]at hc
   obtain⟨s,hs,hc⟩:=hc
   simp at hc;subst hc
   obtain⟨EM,rfl⟩:=Bi ha
   exact⟨rfl,aV hρ ho ht hs hx hi EM⟩
  ·rename_i e ht
   simp only[Option.map_eq_some_iff]at hc
   obtain⟨s,hs,hc⟩:=hc
   simp at hc;subst hc
   obtain⟨EM,rfl⟩:=Bi ha
   exact⟨rfl,je hρ ho ht hs hx hi EM⟩
  ·simp at hc
 case index t x i=>
  obtain⟨x',hx,i',hi,hc⟩:=hc
  split at hc
  ·rename_i n e ht
   split at hc
   ·rename_i hag
    simp only[Option.map_eq_some_iff]at hc
    obtain⟨s,hs,hc⟩:=hc
    simp at hc;subst hc
    obtain⟨EM,rfl⟩:=Bi ha
    exact⟨rfl,jc hρ ho ht hs hag hx hi EM⟩
   ·rename_i hag
    split at hc<;>simp at hc
    rename_i hs
    subst hc
    obtain⟨EM,rfl⟩:=Bi ha
    exact⟨rfl,jd hρ ho ht hs hag hx hi EM⟩
   ·simp at hc
  ·simp at hc;subst hc
   obtain⟨EM,rfl⟩:=Bi ha
   exact⟨rfl,Gu hρ (by simp[ho]) (I7 (xs:=[x,i]) (by simp[ho,Op.operands]) (by simp[hx,hi])) EM⟩
  ·simp at hc
 case extract x i=>
  obtain⟨x',hx,hc⟩:=hc
  simp at hc;subst hc
  obtain⟨EM,rfl⟩:=Bi ha
  exact⟨rfl,Wo hρ ho hx EM⟩
 case typeAssert x xt t ok=>
  split at hc
  ·split at hc
   ·simp at hc
   ·rename_i hok
    simp only[Option.map_eq_some_iff]at hc
    obtain⟨x',hx,hc⟩:=hc
    simp at hc;subst hc
    obtain⟨EM,rfl⟩:=Bi ha
    have hok:ok=false:=by simpa using hok
    subst hok
    exact⟨rfl,Yn hρ ho hx EM⟩
  ·rename_i d hd ht
   simp only[Option.bind_eq_some_iff,Option.map_eq_some_iff]at hc
   obtain⟨z,hz,x',hx,hc⟩:=hc
   simp at hc;subst hc
   obtain⟨EM,rfl⟩:=Bi ha
   exact⟨rfl,i6 hρ ho ht (fun m e=>hd m e) hz hx EM⟩
  ·simp at hc
 case lookup t m k ok=>
  split at hc
  ·simp only[Option.bind_eq_some_iff,Option.map_eq_some_iff]at hc
   obtain⟨_,_,_,_,_,_,hc⟩:=hc
   simp at hc;subst hc;simp[B9.light]at hl
  ·simp at hc
 case mapUpdate t m k v'=>
  split at hc
  ·simp only[Option.bind_eq_some_iff,Option.map_eq_some_iff]at hc
   obtain⟨_,_,_,_,_,_,hc⟩:=hc
   simp at hc;subst hc;simp[B9.light]at hl
  ·simp at hc
 case insert t m k v'=>
  split at hc
  ·simp only[Option.bind_eq_some_iff,Option.map_eq_some_iff]at hc
   obtain⟨_,_,_,_,_,_,hc⟩:=hc
   simp at hc;subst hc;simp[B9.light]at hl
  ·simp at hc
 case range=>
  split at hc
  ·simp only[Option.map_eq_some_iff]at hc
   obtain⟨_,_,hc⟩:=hc;simp at hc;subst hc;simp[B9.light]at hl
  ·simp only[Option.map_eq_some_iff]at hc
   obtain⟨_,_,hc⟩:=hc;simp at hc;subst hc;simp[B9.light]at hl
  ·simp at hc
 case next=>
  split at hc
  ·simp only[Option.map_eq_some_iff]at hc
   obtain⟨_,_,hc⟩:=hc;simp at hc;subst hc;simp[B9.light]at hl
  ·simp at hc
 case entry=>obtain⟨_,_,hc⟩:=hc;simp at hc;subst hc;simp[B9.light]at hl
 case mapEntry=>
  split at hc
  ·simp only[Option.bind_eq_some_iff,Option.map_eq_some_iff]at hc
   obtain⟨_,_,_,_,_,_,hc⟩:=hc;simp at hc;subst hc;simp[B9.light]at hl
  ·simp at hc
 case entryStore=>obtain⟨_,_,_,_,_,_,hc⟩:=hc;simp at hc;subst hc;simp[B9.light]at hl
 case call c=>exact aY hρ ho hc hl hf ha
 case panic x=>simp at hc;subst hc;simp[C6]at ha

end
end AE

/- What it means that an abstract heap lies in a world; new rows, loads, stores. -/
namespace AE
open Go Go.RowKit

def Dl (I:AZ) (e:MapEntry):MapEntry:=⟨ren I e.key,ren I e.val,e.born⟩
def wI (I:AZ) (e:MapEntry):Prop:=In I e.key/\In I e.val

def EG:Uh->Option Code
 |.none=>none
 |.ret=>some .ret
 |.exit id=>some (.exit id)

def Cu (I:AZ) (n:Nat) (ts:Ts) (tmps:Array Value):Prop:=tmps.size=n/\∀i,tmps.getD i undef=ren I (ts i)/\In I (ts i)

def Ci (I:AZ) (r:Nat) (w:World):BQ->Prop
 |.cells c e=>C5 I c/\∃b,I.at_ r none=some (b,0)/\I.base<=b/\w.heap[b]? =some (.cells ⟨AX I c⟩ e (0,0))
 |.ro c=>C5 I c/\∃b d,I.at_ r none=some (b,d)/\∀i v,c[i]? =some v->w.cell? ⟨b,d+i,none⟩=some (ren I v)
 |.grow c e sz lens valid=>C5 I c/\lens.head? =some c.length/\(∀n∈lens,n<=c.length)/\(∀g p,I.at_ r (some g)=some p->g<lens.length)/\(∀g g' b d d',valid<=g->valid<=g'->I.at_ r (some g)=some (b,d)->I.at_ r (some g')=some (b,d')->d=d')/\∀g,valid<=g->g<lens.length->∃b d C,I.at_ r (some g)=some (b,d)/\I.base<=b/\w.heap[b]? =some (.cells C e (0,0))/\
  d+GN lens g<=C.size/\C.size=d+I.cap r g*sz/\∀i,i<GN lens g->C[d+i]? =(AX I c)[i]?
 |.map es clock=>(∀e∈es,wI I e)/\∃b,I.at_ r none=some (b,0)/\I.base<=b/\w.heap[b]? =some (.map ⟨es.map (Dl I)⟩ clock)
 |.iter m since seen c0=>∃b bm,I.at_ r none=some (b,0)/\I.base<=b/\I.at_ m none=some (bm,0)/\w.heap[b]? =some (.mapIter (some bm) since ⟨seen⟩ c0)
 |.Oc s pos=>∃b,I.at_ r none=some (b,0)/\I.base<=b/\w.heap[b]? =some (.stringIter s pos)
 |.loop l=>∃b tmps db fn,I.at_ r none=some (b,0)/\I.base<=b/\Cu I l.size l.tmps tmps/\
  w.heap[b]? =some (.loop {state:=l.state,pending:=EG l.pend,fn,tmps,params:=⟨l.params⟩,assign:=l.Ed,body:=l.body,defers:=db})
 |.defers=>∃b,I.at_ r none=some (b,0)/\I.base<=b/\w.heap[b]? =some (.deferred (some []))
 |.gone=>True

def Qe (n:Nat) (w:World):Prop:=∀x∈rE,x.1<n/\∃e fr,w.heap[x.1]? =some (.cells ⟨x.2⟩ e fr)
theorem Qe.same {n:Nat}{w w':World}(k:Qe n w) (h:∀b,b<n->w'.heap[b]? =w.heap[b]?):Qe n w':=fun x hx=>let⟨h1,e,fr,h2⟩:=k x hx;⟨h1,e,fr,(h _ h1).trans h2⟩

structure Rel (I:AZ) (h:H) (w:World):Prop where
 rows:∀r row,h.get r=some row->I.dom r->Ci I r w row
 lt:∀r,I.dom r->r<h.next
 size:∀r s b d,I.at_ r s=some (b,d)->b<w.heap.size
 base:I.base<=w.heap.size
 tabs:Qe I.base w
 inj:∀r r' s s' b d d',I.at_ r s=some (b,d)->I.at_ r' s'=some (b,d')->I.base<=b->r=r'
 clean:∀r,h.next<=r->h.get r=none

structure Ext (I:AZ) (lo:Nat) (w w':World):Prop where
 os:w'.os=w.os
 tape:w'.tape=w.tape
 output:w'.output=w.output
 size:w.heap.size<=w'.heap.size
 block:∀b,b<w.heap.size->(∀r s d,I.at_ r s=some (b,d)->I.base<=b->r<lo)->w'.heap[b]? =w.heap[b]?

theorem Ext.refl (I:AZ) (lo:Nat) (w:World):Ext I lo w w:=⟨rfl,rfl,rfl,Nat.le_refl _,fun _ _ _=>rfl⟩
structure CK (I J:AZ) (w:World):Prop where
 le:Le I J
 new:∀r s b d,J.at_ r s=some (b,d)->I.at_ r s=some (b,d)\/w.heap.size<=b\/(∃s' d',I.at_ r s'=some (b,d'))
theorem CK.refl (I:AZ) (w:World):CK I I w:=⟨Le.refl I,fun _ _ _ _ h=>.inl h⟩
theorem CK.trans {I J K:AZ}{w w':World}(h:CK I J w) (k:CK J K w') (hs:w.heap.size<=w'.heap.size):CK I K w:=by
 refine⟨h.le.trans k.le,fun r s b d e=>?_⟩
 rcases k.new r s b d e with e|e|⟨s',d',e⟩
 ·exact h.new r s b d e
 ·exact .inr (.inl (by omega))
 ·rcases h.new r s' b d' e with e|e|e
  ·exact .inr (.inr ⟨_,_,e⟩)
  ·exact .inr (.inl e)
  ·exact .inr (.inr e)
theorem Ext.trans {I J:AZ}{lo:Nat}{w w' w'':World}(h:Ext I lo w w') (g:CK I J w) (k:Ext J lo w' w''):Ext I lo w w'':=by
 refine⟨k.os.trans h.os,k.tape.trans h.tape,k.output.trans h.output,Nat.le_trans h.size k.size,fun b hb hr=>?_⟩
 rw[k.block b (by have:=h.size;omega) (fun r s d e hbase=>?_),h.block b hb hr]
 rw[g.le.base]at hbase
 rcases g.new r s b d e with e|e|⟨s',d',e⟩
 ·exact hr r s d e hbase
 ·omega
 ·exact hr r s' d' e hbase
theorem Ext.mono {I:AZ}{lo lo':Nat}{w w':World}(h:Ext I lo w w') (hl:lo'<=lo):Ext I lo' w w':=
 ⟨h.os,h.tape,h.output,h.size,fun b hb hr=>h.block b hb (fun r s d e k=>Nat.lt_of_lt_of_le (hr r s d e k) hl)⟩


theorem Cu.le {I J:AZ}(h:Le I J) {n:Nat}{ts:Ts}{tmps:Array Value}(k:Cu I n ts tmps):Cu J n ts tmps:=
 ⟨k.1,fun i=>⟨by rw[(k.2 i).1,(h.ren _ (k.2 i).2).1],(h.ren _ (k.2 i).2).2⟩⟩
theorem wI.le {I J:AZ}(h:Le I J) {e:MapEntry}(k:wI I e):wI J e/\Dl J e=Dl I e:=
 ⟨⟨(h.ren _ k.1).2,(h.ren _ k.2).2⟩,by simp[Dl,(h.ren _ k.1).1,(h.ren _ k.2).1]⟩

def vq (I:AZ) (r b:Nat):Prop:=∃s d,I.at_ r s=some (b,d)

theorem Ci.le {I J:AZ}(h:Le I J) {r:Nat}{w w':World}{row:BQ}(k:Ci I r w row) (hJ:∀s p,J.at_ r s=some p->I.at_ r s=some p) (hb:∀b,vq I r b->w'.heap[b]? =w.heap[b]?):Ci J r w' row:=by
 cases row with
 | cells c e=>
   obtain⟨i,b,e1,e2,e3⟩:=k
   obtain⟨er,ir⟩:=h.AX c i
   exact⟨ir,b,h.at_ _ _ _ e1,by rw[h.base];exact e2,by rw[hb b ⟨_,_,e1⟩,e3,er]⟩
 | ro c=>
   obtain⟨i,b,d,e1,e2⟩:=k
   refine⟨(h.AX c i).2,b,d,h.at_ _ _ _ e1,fun j v hj=>?_⟩
   rw[(h.ren v (Gm i hj)).1,<-e2 j v hj]
   simp only[World.cell?,hb b ⟨_,_,e1⟩]
 | grow c e sz lens valid=>
   obtain⟨i,h1,h2,hgen,hof,h3⟩:=k
   obtain⟨er,ir⟩:=h.AX c i
   refine⟨ir,h1,h2,fun g p e=>hgen g p (hJ _ _ e),fun g g' b d d' v v' e e'=>hof g g' b d d' v v' (hJ _ _ e) (hJ _ _ e'),fun g hg hl=>?_⟩
   obtain⟨b,d,C,e1,e2,e3,e4,e5,e6⟩:=h3 g hg hl
   refine⟨b,d,C,h.at_ _ _ _ e1,by rw[h.base];exact e2,by rw[hb b ⟨_,_,e1⟩,e3],e4,?_,by rw[er];exact e6⟩
   rw[h.cap _ _ _ e1];exact e5
 | map es clock=>
   obtain⟨i,b,e1,e2,e3⟩:=k
   refine⟨fun e he=>((i e he).le h).1,b,h.at_ _ _ _ e1,by rw[h.base];exact e2,?_⟩
   rw[hb b ⟨_,_,e1⟩,e3]
   congr 3
   exact List.map_congr_left fun e he=>((i e he).le h).2.symm
 | iter m since seen c0=>
   obtain⟨b,bm,e1,e2,e3,e4⟩:=k
   exact⟨b,bm,h.at_ _ _ _ e1,by rw[h.base];exact e2,h.at_ _ _ _ e3,by rw[hb b ⟨_,_,e1⟩,e4]⟩
 | Oc s p=>
   obtain⟨b,e1,e2,e3⟩:=k
   exact⟨b,h.at_ _ _ _ e1,by rw[h.base];exact e2,by rw[hb b ⟨_,_,e1⟩,e3]⟩
 | loop l=>
   obtain⟨b,tmps,db,fn,e1,e2,e3,e5⟩:=k
   exact⟨b,tmps,db,fn,h.at_ _ _ _ e1,by rw[h.base];exact e2,e3.le h,by rw[hb b ⟨_,_,e1⟩,e5]⟩
 | defers=>
   obtain⟨b,e1,e2,e3⟩:=k
   exact⟨b,h.at_ _ _ _ e1,by rw[h.base];exact e2,by rw[hb b ⟨_,_,e1⟩,e3]⟩
 |gone=>trivial

end AE

/- New rows, loads and stores: abstract and in a world. -/
namespace AE
open Go Go.RowKit

def AZ.plus (I:AZ) (r:Nat) (s:Option Nat) (b c:Nat) (d:Nat:=0):AZ:=
 ⟨fun r' s'=>if r'=r/\s'=s then some (b,d)else I.at_ r' s',fun r' g=>if r'=r/\s=some g then c else I.cap r' g,I.base⟩

theorem AZ.BD (I:AZ) (r:Nat) (s:Option Nat) (b c:Nat) {d:Nat}:(I.plus r s b c d).at_ r s=some (b,d):=by simp[AZ.plus]
theorem AZ.BA {I:AZ}{r:Nat}{s:Option Nat}{b c d r':Nat}{s':Option Nat}(h:¬(r'=r/\s'=s)):(I.plus r s b c d).at_ r' s'=I.at_ r' s':=by simp only[AZ.plus,if_neg h]
theorem Le.plus {I:AZ}{r:Nat}{s:Option Nat}{b c d:Nat}(h:I.at_ r s=none):Le I (I.plus r s b c d):=by
 refine⟨fun r' s' p e=>?_,fun r' g p e=>?_,rfl⟩
 ·rw[AZ.BA];exact e
  rintro⟨rfl,rfl⟩
  rw[h]at e;cases e
 ·simp only[AZ.plus]
  rw[if_neg]
  rintro⟨rfl,rfl⟩
  rw[h]at e;cases e
theorem AZ.C8 {I:AZ}{r:Nat}{s:Option Nat}{b c d r':Nat}(h:(I.plus r s b c d).dom r'):I.dom r'\/r'=r:=by
 obtain⟨s',p,e⟩:=h
 by_cases hr:r'=r
 ·exact .inr hr
 ·rw[AZ.BA (fun h=>hr h.1)]at e
  exact .inl ⟨s',p,e⟩
theorem FJ {I:AZ}{r:Nat}(h:¬I.dom r) (s:Option Nat):I.at_ r s=none:=by
 cases e:I.at_ r s with
 |none=>rfl
 |some p=>exact absurd ⟨s,p,e⟩ h

theorem heap_alloc (w:World) (o:Obj):(w.alloc o).heap[w.heap.size]? =some o:=by show(w.heap.push o)[w.heap.size]? =_;simp
theorem heap_alloc_old (w:World) (o:Obj) {b:Nat}(h:b<w.heap.size):(w.alloc o).heap[b]? =w.heap[b]? :=by
 show(w.heap.push o)[b]? =_
 rw[Array.getElem?_push,if_neg (by omega)]
theorem Ext.alloc (I:AZ) (lo:Nat) (w:World) (o:Obj):Ext I lo w (w.alloc o):=by
 refine⟨rfl,rfl,rfl,by simp,fun b hb _=>heap_alloc_old w o hb⟩

theorem CK.plus {I:AZ}{w:World}{r:Nat}{s:Option Nat}{b c d:Nat}(h:I.at_ r s=none) (hb:w.heap.size<=b\/∃s' d',I.at_ r s'=some (b,d')):CK I (I.plus r s b c d) w:=by
 refine⟨Le.plus h,fun r' s' b' d e=>?_⟩
 by_cases hr:r'=r/\s'=s
 ·obtain⟨rfl,rfl⟩:=hr
  rw[AZ.BD]at e
  simp at e
  obtain⟨rfl,rfl⟩:=e
  exact .inr hb
 ·rw[AZ.BA hr]at e
  exact .inl e

theorem AZ.GF {I:AZ}{r:Nat}{s:Option Nat}{b c d lo:Nat}(hr:lo<=r):∀r' s' p,r'<lo->(I.plus r s b c d).at_ r' s'=some p->I.at_ r' s'=some p:=fun r' s' p hl e=>by
 rwa [AZ.BA (by omega)]at e

theorem Rel.new {I:AZ}{h:H}{w:World}(k:Rel I h w) {r:Nat}(hn:¬I.dom r) (hr:r<h.next) (s:Option Nat) (c:Nat) (o:Obj) {row:BQ}(hrow:Ci (I.plus r s w.heap.size c) r (w.alloc o) row):
 Rel (I.plus r s w.heap.size c) (h.put r row) (w.alloc o):=by
 have hle:Le I (I.plus r s w.heap.size c):=Le.plus (FJ hn s)
 refine⟨fun r' row' e d=>?_,fun r' d=>?_,fun r' s' b d e=>?_,?_,?_,?_,?_⟩
 ·simp only[H.put]at e
  split at e
  ·rename_i hrr
   subst hrr
   simp at e;subst e;exact hrow
  ·rename_i hrr
   rcases AZ.C8 d with d|d
   ·refine(k.rows r' row' e d).le hle (fun s' p e'=>by rwa [AZ.BA (fun h=>hrr h.1)]at e') (fun b jy=>by obtain⟨s',d',hb⟩:=jy;exact heap_alloc_old w o (k.size _ _ _ _ hb))
   ·exact absurd d hrr
 ·rcases AZ.C8 d with d|rfl
  ·exact k.lt r' d
  ·exact hr
 ·by_cases hrs:r'=r/\s'=s
  ·obtain⟨rfl,rfl⟩:=hrs
   rw[AZ.BD]at e
   simp at e;simp[<-e.1]
  ·rw[AZ.BA hrs]at e
   have:=k.size _ _ _ _ e
   simp;omega
 ·have:=k.base;simp[AZ.plus];omega
 ·have:=k.base;exact k.tabs.same fun b hb=>heap_alloc_old w o (by omega)
 ·intro r1 r2 s1 s2 b d d' e1 e2 hb
  by_cases h1:r1=r/\s1=s
  ·by_cases h2:r2=r/\s2=s
   ·rw[h1.1,h2.1]
   ·rw[AZ.BA h2]at e2
    obtain⟨rfl,rfl⟩:=h1
    rw[AZ.BD]at e1
    have:=k.size _ _ _ _ e2
    simp at e1;omega
  ·rw[AZ.BA h1]at e1
   by_cases h2:r2=r/\s2=s
   ·obtain⟨rfl,rfl⟩:=h2
    rw[AZ.BD]at e2
    have:=k.size _ _ _ _ e1
    simp at e2;omega
   ·rw[AZ.BA h2]at e2
    exact k.inj _ _ _ _ _ _ _ e1 e2 hb
 ·intro r' hr'
  simp only[H.put]at hr'⊢
  rw[if_neg (by omega)]
  exact k.clean r' hr'


theorem fC {c:List Value}{lens:List Nat}(h:∀n∈lens,n<=c.length) (g:Nat):GN lens g<=c.length:=by
 unfold GN
 cases e:lens[lens.length - 1 - g]? with
 |none=>simp
 |some n=>simpa using h n (List.mem_of_getElem? e)

theorem NB {I:AZ}{h:H}{w:World}{a:Addr}{n:Nat}{l:List Value}{row:BQ}(hg:h.get a.block=some row) (k:Ci I a.block w row) (ha:Nm I a) (hl:h.Bu a n=some l):
 ∃b,Ew I a=some b/\b.spot=none/\C5 I l/\l.length=n/\∀j v,l[j]? =some v->w.cell? (b.add j)=some (ren I v):=by
 obtain⟨p,hp⟩:=ha
 refine⟨⟨p.1,p.2+a.off,none⟩,by simp only[Ew,hp],rfl,?_⟩
 have hadd:∀j,(⟨p.1,p.2+a.off,none⟩:Addr).add j=⟨p.1,p.2+a.off+j,none⟩:=fun j=>by
  unfold Addr.add;split<;>simp_all
 simp only[hadd]
 simp only[H.Bu,hg,Option.bind_some]at hl
 have fin:∀(c:List Value) (w':Nat->Option Value),C5 I c->cut c a.off n=some l->(∀i v,c[i]? =some v->i<a.off+n->w' i=some (ren I v))->
  C5 I l/\l.length=n/\∀j v,l[j]? =some v->w' (a.off+j)=some (ren I v):=by
  intro c w' hi hc hw
  refine⟨Ru hi hc,?_,fun j v hj=>?_⟩
  ·obtain⟨h1,rfl⟩:=HS hc
   simp;omega
  ·obtain⟨h1,rfl⟩:=HS hc
   rw[List.getElem?_take]at hj
   split at hj
   ·rw[List.getElem?_drop]at hj
    exact hw _ v hj (by omega)
   ·simp at hj
 cases row with
 | cells c e=>
   cases hs:a.spot with
   |some g=>rw[hs]at hl;simp[Cr]at hl
   | none=>
     rw[hs]at hl hp
     obtain⟨i,b,e1,e2,e3⟩:=k
     rw[hp]at e1;simp at e1;subst e1
     obtain⟨f1,f2,f3⟩:=fin c (fun i=>w.cell? ⟨b,i,none⟩) i hl (fun i v hv _=>by
      simp only[World.cell?,e3]
      simp[Dm,hv])
     exact⟨f1,f2,fun j v hj=>by simpa using f3 j v hj⟩
 | ro c=>
   cases hs:a.spot with
   |some g=>rw[hs]at hl;simp[Cr]at hl
   | none=>
     rw[hs]at hl hp
     obtain⟨i,b,d,e1,e2⟩:=k
     rw[hp]at e1;simp at e1;subst e1
     obtain⟨f1,f2,f3⟩:=fin c (fun i=>w.cell? ⟨b,d+i,none⟩) i hl (fun i v hv _=>e2 i v hv)
     exact⟨f1,f2,fun j v hj=>by simpa[Nat.add_assoc]using f3 j v hj⟩
 | grow c e sz lens valid=>
   cases hs:a.spot with
   |none=>rw[hs]at hl;simp[Cr]at hl
   | some g=>
     rw[hs]at hl hp
     simp only[Cr]at hl
     split at hl
     ·rename_i hc
      obtain⟨i,h1,h2,hgen, -,h3⟩:=k
      obtain⟨b,d,C,e1,e2,e3,e4,e5,e6⟩:=h3 g hc.1 hc.2.1
      rw[hp]at e1;simp at e1;subst e1
      obtain⟨f1,f2,f3⟩:=fin c (fun i=>w.cell? ⟨b,d+i,none⟩) i hl (fun i v hv hi=>by
       simp only[World.cell?,e3]
       simp[e6 i (by omega),Dm,hv])
      exact⟨f1,f2,fun j v hj=>by simpa[Nat.add_assoc]using f3 j v hj⟩
     ·simp at hl
 |map es cl=>simp[Cr]at hl
 |iter m s l c=>simp[Cr]at hl
 |Oc s p=>simp[Cr]at hl
 |loop l=>simp[Cr]at hl
 |defers=>simp[Cr]at hl
 |gone=>simp[Cr]at hl

theorem JA {P:Program}{I:AZ}{w:World}{b:Addr}{l:List Value}(h:∀j v,l[j]? =some v->w.cell? (b.add j)=some (ren I v)):
 (loadCells b l.length).run P w= .ok ⟨AX I l⟩ w:=by
 have:=run_loadCells_list (P:=P) w b (AX I l) (fun j v hj=>by
  rw[Dm,Option.map_eq_some_iff]at hj
  obtain⟨u,hu,rfl⟩:=hj
  exact h j u hu)
 simpa using this

section
variable {P:Program}{I:AZ}{ts:Ts}{ρ:Operand->Value}

theorem UF (hρ:Ev I ts ρ) {o:Oper}{t:TypeId}{x:Operand}{x':BH}{h:H}{w:World}{v:Value}(ho:o.op= .load t x) (ht:Dc P t=some false) (hx:Bw x=some x')
 (hv:JR h (ev ts x')=some v) (k:∀a row,ev ts x'= .pointer (some a)->h.get a.block=some row->Ci I a.block w row):In I v/\(execOp ρ o).run P w= .ok (.value (ren I v)) w:=by
 obtain⟨e,i⟩:=hρ x x' hx
 unfold JR at hv
 split at hv
 ·rename_i a ha
  rw[ha]at e i
  simp only[Option.bind_eq_some_iff]at hv
  obtain⟨l,hl,hv⟩:=hv
  cases hg:h.get a.block with
  |none=>simp[H.Bu,hg]at hl
  | some row=>
    obtain⟨b,hb,hbs,il,hlen,hcell⟩:=NB hg (k a row ha hg) (by simpa[In]using i) hl
    have h0:l[0]? =some v:=by simpa using hv
    have hc:=hcell 0 v h0
    have hb0:b.add 0=b:=rfl
    rw[hb0]at hc
    refine⟨Gm il h0,?_⟩
    simp[execOp,ho,e,ren,hb,Instr.loadAt,Instr.sureAddr,loadVar,KF ht,hc]
 ·simp at hv
theorem UE (hρ:Ev I ts ρ) {o:Oper}{t:TypeId}{n:Nat}{x:Operand}{x':BH}{h:H}{w:World}{v:Value}(ho:o.op= .load t x) (ht:Dc P t=some true) (hn:sizeT P t=some n) (hx:Bw x=some x')
 (hv:JQ n h (ev ts x')=some v) (k:∀a row,ev ts x'= .pointer (some a)->h.get a.block=some row->Ci I a.block w row):In I v/\(execOp ρ o).run P w= .ok (.value (ren I v)) w:=by
 obtain⟨e,i⟩:=hρ x x' hx
 unfold JQ at hv
 split at hv
 ·rename_i a ha
  rw[ha]at e i
  simp only[Option.map_eq_some_iff]at hv
  obtain⟨l,hl,rfl⟩:=hv
  cases hg:h.get a.block with
  |none=>simp[H.Bu,hg]at hl
  | some row=>
    obtain⟨b,hb,hbs,il,hlen,hcell⟩:=NB hg (k a row ha hg) (by simpa[In]using i) hl
    have hc:=JA (P:=P) hcell
    rw[hlen]at hc
    refine⟨by simpa only[In]using il,?_⟩
    simp[execOp,ho,e,ren,hb,Instr.loadAt,Instr.sureAddr,loadVar,KF ht,Cs hn,hc]
 ·simp at hv


def TM (P:Program) (I:AZ) (ρ:Operand->Value) (o:Oper) (Br:Nat) (h h':H) (v:Value):Prop:=
 ∃row,h'=h.put Br row/\∀w,I.base<=w.heap.size->¬I.dom Br->∃ob,(execOp ρ o).run P w= .ok (.value (ren (I.plus Br none w.heap.size 0) v)) (w.alloc ob)/\
  In (I.plus Br none w.heap.size 0) v/\Ci (I.plus Br none w.heap.size 0) Br (w.alloc ob) row

theorem JI {Br:Nat}{w:World}{c:List Value}{e:TypeId}(hc:C5 I c) (hb:I.base<=w.heap.size) (hn:¬I.dom Br):
 Ci (I.plus Br none w.heap.size 0) Br (w.alloc (.cells ⟨AX I c⟩ e)) (.cells c e):=by
 have hle:Le I (I.plus Br none w.heap.size 0):=Le.plus (FJ hn none)
 obtain⟨e1,i1⟩:=hle.AX c hc
 exact⟨i1,w.heap.size,AZ.BD ..,hb,by rw[heap_alloc,e1]⟩
theorem Q9 {Br b:Nat}:ren (I.plus Br none b 0) (.pointer (some ⟨Br,0,none⟩))= .pointer (some ⟨b,0,none⟩)/\In (I.plus Br none b 0) (.pointer (some ⟨Br,0,none⟩)):=by
 simp only[ren,In,Ew,Nm,AZ.BD]
 exact⟨by simp,_,rfl⟩
theorem Mv {Br b l c:Nat}(h:l<=c) (hf:c<far):ren (I.plus Br none b 0) (.slice (some ⟨Br,0,none⟩) l c)= .slice (some ⟨b,0,none⟩) l c/\In (I.plus Br none b 0) (.slice (some ⟨Br,0,none⟩) l c):=by
 rw[CQ hf,Dp hf]
 simp only[Ew,Nm,AZ.BD,CH,E4]
 exact⟨by simp,⟨_,rfl⟩,h⟩

theorem YZ {o:Oper}{e:TypeId}{z:Value}{Br:Nat}{h h':H}{v:Value}(ho:o.op= .alloc e) (hz:Fx P e=some z) (ha:Ka Br e (Bf z) h=some (v,h')):TM P I ρ o Br h h' v:=by
 have fm:=(CO hz default).2
 have hi:C5 I (Bf z):=Jo (Cg I z fm).2
 have hrz:AX I (Bf z)=Bf z:=by rw[<-Jj,(Cg I z fm).1]
 simp[Ka]at ha
 obtain⟨rfl,rfl⟩:=ha
 refine⟨_,rfl,fun w hb hn=>⟨.cells ⟨AX I (Bf z)⟩ e,?_,Q9.2,JI hi hb hn⟩⟩
 rw[Q9.1,hrz]
 simp[execOp,ho,Instr.alloc,(CO hz w).1,newVar,newRow,EI]
theorem jB (hρ:Ev I ts ρ) {o:Oper}{e:TypeId}{x:Operand}{x':BH}{Br:Nat}{h h':H}{v:Value}(ho:o.op= .box e x) (hx:Bw x=some x') (ha:Ka Br e (Bf (ev ts x')) h=some (v,h')):TM P I ρ o Br h h' v:=by
 obtain⟨e1,i1⟩:=hρ x x' hx
 simp[Ka]at ha
 obtain⟨rfl,rfl⟩:=ha
 refine⟨_,rfl,fun w hb hn=>⟨.cells ⟨AX I (Bf (ev ts x'))⟩ e,?_,Q9.2,JI (Jo i1) hb hn⟩⟩
 rw[Q9.1]
 simp[execOp,ho,e1,Instr.box,newVar,newRow,EI,Jj]
theorem Mt {z:List Value}(hz:DZ z=true):∀n,DZ (HX z n)=true
 |0=>rfl
 | n+1=>by
   have:∀a b:List Value,DZ a=true->DZ b=true->DZ (a++b)=true:=by
    intro a b h1 h2
    induction a with
    |nil=>exact h2
    |cons x xs ih=>simp only[List.cons_append,DZ,Bool.and_eq_true]at*;exact⟨h1.1,ih h1.2⟩
   exact this _ _ hz (Mt hz n)
theorem Lx (z:List Value):∀n,(HX z n).length=n*z.length
 |0=>by simp[HX]
 |n+1=>by simp[HX,Lx z n,Nat.add_mul];omega
theorem Se {z:List Value}:∀(n i:Nat),i<n*z.length->(HX z n)[i]? =z[i%z.length]?
 |0,i,h=>by simp at h
 | n+1,i,h=>by
   have hz:0<z.length:=by
    rcases Nat.eq_zero_or_pos z.length with h0|h0
    ·rw[h0]at h;simp at h
    ·exact h0
   simp only[HX,List.getElem?_append]
   by_cases hi:i<z.length
   ·rw[if_pos hi,Nat.mod_eq_of_lt hi]
   ·have h':i<n*z.length+1*z.length:=by rw[<-Nat.add_mul];exact h
    rw[if_neg hi,Se n _ (by omega)]
    congr 1
    exact(Nat.mod_eq_sub_mod (by omega)).symm
theorem V6 (z:List Value) (n m:Nat) (hm:m=n*z.length):(Array.range m).map (fun i=>(⟨z⟩:Array Value)[i%(⟨z⟩:Array Value).size]!)=⟨HX z n⟩:=by
 apply Array.ext'
 simp only[Array.toList_map,Array.toList_range]
 apply List.ext_getElem?
 intro i
 simp only[List.getElem?_map]
 by_cases hi:i<m
 ·have hz:0<z.length:=by
   rcases Nat.eq_zero_or_pos z.length with h0|h0
   ·rw[hm,h0]at hi;simp at hi
   ·exact h0
  rw[Se n i (by omega)]
  have hlt:=Nat.mod_lt i hz
  simp[hi,hlt]
 ·simp[hi,List.getElem?_eq_none (show(HX z n).length<=i by rw[Lx];omega)]

theorem WK (hρ:Ev I ts ρ) {o:Oper}{t e:TypeId}{len:Nat}{parts:Array (Nat × Operand)}{ie:TypeInfo}{z:Value}{ps:List (Nat × Nat × BH)}{Br:Nat}{h h':H}{v:Value}(ho:o.op= .buildSlice t len parts)
 (ht:P.underlying t=some (.slice e)) (hi:P.info? e=some ie) (hz:Fx P e=some z) (h24:len*ie.size<=2^24) (h0:ie.size≠0) (hzl:(Bf z).length=ie.size)
 (hps:JV (fun i=>some (i*ie.size,ie.size)) parts.toList=some ps) (ha:(Hl ts (HX (Bf z) len) ps).map (fun cs=>(Value.slice (some ⟨Br,0,none⟩) len len,h.put Br (.cells cs e)))=some (v,h')):TM P I ρ o Br h h' v:=by
 have fm:=(CO hz default).2
 have hzL:DZ (Bf z)=true:=by
  cases z<;>simp_all[Bf,DZ,flat]
 obtain⟨er,ir⟩:=FT I _ (Mt hzL len)
 simp only[Option.map_eq_some_iff,Prod.mk.injEq]at ha
 obtain⟨cs,hcs,rfl,rfl⟩:=ha
 obtain⟨f1,f2⟩:=Oh hρ _ _ _ _ _ hps hcs ir
 rw[er]at f1
 have hs:sizeT P e=some ie.size:=by simp[sizeT,hi]
 have MW:len<far:=by
  have:len*1<=len*ie.size:=Nat.mul_le_mul_left _ (by omega)
  unfold far
  omega
 refine⟨_,rfl,fun w hb hn=>⟨.cells ⟨AX I cs⟩ e,?_,(Mv (Nat.le_refl _) MW).2,JI f2 hb hn⟩⟩
 rw[(Mv (Nat.le_refl _) MW).1]
 have Anf:¬(len*ie.size>16777216):=by omega
 have hrep:=V6 (Bf z) len (len*ie.size) (by rw[hzl])
 by_cases hl:len=0
 ·subst hl
  simp only[HX]at f1
  have hr0:∀f:Nat->Value,Array.map f (Array.range 0)=⟨[]⟩:=fun f=>by simp[Array.range]
  simp[execOp,ho,Instr.buildSlice,run_underlying ht,Cs hs,hr0,newRow]at f1⊢
  simp[f1]
 ·have hne:¬(len*ie.size=0):=by
   rw[Nat.mul_eq_zero];omega
  simp only[execOp,ho,Instr.buildSlice,Sem.run_bind,run_underlying ht,Result.andThen_ok,Cs hs]
  rw[if_neg (by simpa using Anf)]
  simp only[hne,if_false,Sem.run_bind,(CO hz w).1,Result.andThen_ok,Sem.run_pure,EI]
  rw[hrep]
  simp[f1,newRow]
theorem YY {o:Oper}{t:TypeId}{Br:Nat}{h h':H}{v:Value}(ho:o.op= .makeMap t none) (ha:some (Value.map (some Br),h.put Br (.map [] 0))=some (v,h')):TM P I ρ o Br h h' v:=by
 simp at ha
 obtain⟨rfl,rfl⟩:=ha
 refine⟨_,rfl,fun w hb hn=>⟨.map #[] 0,?_,?_,?_⟩⟩
 ·simp[execOp,ho,Instr.makeMap,ren,AZ.blk,AZ.BD]
 ·simp only[In,InR];exact⟨_,AZ.BD ..⟩
 ·exact⟨by simp,w.heap.size,AZ.BD ..,hb,by rw[heap_alloc];rfl⟩
theorem Uc (hρ:Ev I ts ρ) {o:Oper}{t e:TypeId}{x y:Operand}{x' y':BH}{ie:TypeInfo}{z:Value}{Br:Nat}{h h':H}{v:Value}(ho:o.op= .makeSlice t x y) (ht:P.underlying t=some (.slice e)) (hi:P.info? e=some ie)
 (hz:Fx P e=some z) (h0:ie.size≠0) (hzl:(Bf z).length=ie.size) (hx:Bw x=some x') (hy:Bw y=some y')
 (ha:JY Br (Bf z) ie.bytes e h (C9 (ev ts x')) (C9 (ev ts y'))=some (v,h')):TM P I ρ o Br h h' v:=by
 have fm:=(CO hz default).2
 have hzL:DZ (Bf z)=true:=by
  cases z<;>simp_all[Bf,DZ,flat]
 obtain⟨e1, -⟩:=hρ x x' hx
 obtain⟨e2, -⟩:=hρ y y' hy
 unfold JY at ha
 split at ha
 ·rename_i l c hl hc
  split at ha<;>simp at ha
  rename_i hb
  obtain⟨rfl,rfl⟩:=ha
  obtain⟨k1,r1⟩:=Hu (I:=I) hl
  obtain⟨k2,r2⟩:=Hu (I:=I) hc
  rw[r1]at e1
  rw[r2]at e2
  obtain⟨er,ir⟩:=FT I _ (Mt hzL c)
  have hs:sizeT P e=some ie.size:=by simp[sizeT,hi]
  have hbig:c<2^40/\ie.bytes*c<=2^40:=by
   have h1:=hb.2
   have h2:(c+1) * (ie.bytes+1)=ie.bytes*c+c+ie.bytes+1:=by rw[Nat.add_mul,Nat.mul_add,Nat.mul_comm c];omega
   omega
  have MW:c<far:=by unfold far;omega
  refine⟨_,rfl,fun w hbs hn=>⟨.cells ⟨AX I (HX (Bf z) c)⟩ e,?_,(Mv hb.1 MW).2,JI ir hbs hn⟩⟩
  rw[(Mv hb.1 MW).1]
  have hw:∀m:Nat,m<2^40->IntKind.i64.wrap (m:Int)=(m:Int):=fun m hm=>by
   have h64:(2:Int)^64=18446744073709551616:=by decide
   have h63:(2:Int)^63=9223372036854775808:=by decide
   simp only[IntKind.wrap,IntKind.bits,IntKind.signed,h64,h63]
   rw[Int.emod_eq_of_lt (by omega) (by omega),if_neg (by simp;omega)]
  have Anb:l<2^40:=by omega
  have hrep:=V6 (Bf z) c (c*ie.size) (by rw[hzl])
  simp only[execOp,ho,Instr.makeSlice,Sem.run_bind,run_underlying ht,Result.andThen_ok,e1,e2,asInt,asIntOf,Sem.run_pure,run_typeInfo _ hi,hw l Anb,hw c hbig.1]
  rw[if_neg (by simp;omega)]
  simp only[Sem.run_bind,run_askRoom,Result.andThen_ok,Cs hs,Int.toNat_natCast]
  by_cases hc0:c=0
  ·subst hc0
   have hr0:∀f:Nat->Value,Array.map f (Array.range 0)=⟨[]⟩:=fun f=>by simp[Array.range]
   simp[hr0,newRow,HX,AX]
  ·have hne:¬(c*ie.size=0):=by
    rw[Nat.mul_eq_zero];omega
   rw[if_neg hne]
   simp only[Sem.run_bind,(CO hz w).1,Result.andThen_ok,Sem.run_pure,EI]
   rw[hrep,er]
   simp[newRow]
 ·simp at ha


theorem Vq {o:Oper}{op:BinOp}{t:TypeId}{x y:Operand}{ao:B9}(hc:pW P o op t x y=some ao):ao.fresh=false/\ao.light=true:=by
 unfold pW at hc
 simp only[Option.bind_eq_some_iff]at hc
 obtain⟨x',hx,y',hy,hc⟩:=hc
 repeat' split at hc
 all_goals(simp at hc;subst hc;exact⟨rfl,rfl⟩)
theorem cL {o:Oper}{c:Call}{ao:B9}(hc:Tv P o c=some (.op ao)) (hl:ao.light=true):ao.fresh=false:=by
 unfold Tv at hc
 split at hc
 ·simp only[Option.bind_eq_some_iff,Option.map_eq_some_iff]at hc
  obtain⟨_,_,_,_,hc⟩:=hc
  simp at hc
 ·split at hc
  ·simp only[Option.map_eq_some_iff]at hc
   obtain⟨_,_,hc⟩:=hc
   simp at hc
  ·simp at hc
 ·split at hc
  ·simp only[Option.bind_eq_some_iff]at hc
   obtain⟨x',hx',hc⟩:=hc
   split at hc<;>first
    |(simp at hc;done)
    |(simp at hc;subst hc;rfl)
    |(simp only[Option.map_eq_some_iff]at hc;obtain⟨_,_,hc⟩:=hc;simp at hc;subst hc;rfl)
  ·simp only[Option.bind_eq_some_iff]at hc
   obtain⟨x',hx',y',hy',hc⟩:=hc
   split at hc
   ·split at hc
    ·simp at hc
    ·simp only[Option.bind_eq_some_iff]at hc
     obtain⟨ie,_,z,_,hc⟩:=hc
     split at hc<;>simp at hc
     subst hc;simp[B9.light]at hl
    ·simp at hc
   ·simp only[Option.map_eq_some_iff]at hc
    obtain⟨s,_,hc⟩:=hc
    simp at hc;subst hc;rfl
   all_goals first
    |(simp at hc;done)
    |(simp at hc;subst hc;rfl)
  ·split at hc
   all_goals first
    |(simp at hc;done)
    | (simp only[Option.map_eq_some_iff]at hc
       obtain⟨ys,hys,hc⟩:=hc
       simp at hc;subst hc;rfl)

theorem ky (hρ:Ev I ts ρ) {o:Oper}{ao:B9}{lo Br:Nat}{h h':H}{v:Value}(hc:comp P o=some (.op ao)) (hl:ao.light=true) (hf:ao.fresh=true)
 (ha:C6 P lo Br ts h ao=some (v,h')):TM P I ρ o Br h h' v:=by
 have hc:=W6 hc (by rintro rfl;simp[B9.fresh]at hf)
 unfold O4 at hc
 cases ho:o.op<;>rw[ho]at hc<;>simp only[Option.bind_eq_some_iff,Option.map_eq_some_iff,reduceCtorEq]at hc
 case alloc e=>obtain⟨z,hz,hc⟩:=hc;simp at hc;subst hc;exact YZ ho hz ha
 case box e x=>obtain⟨x',hx,hc⟩:=hc;simp at hc;subst hc;exact jB hρ ho hx ha
 case buildSlice t len parts=>
  split at hc
  ·rename_i e ht
   simp only[Option.bind_eq_some_iff]at hc
   obtain⟨ie,hi,z,hz,hc⟩:=hc
   split at hc
   ·rename_i hb
    simp only[Option.map_eq_some_iff]at hc
    obtain⟨ps,hps,hc⟩:=hc
    simp at hc;subst hc
    exact WK hρ ho ht hi hz hb.1 hb.2.1 hb.2.2 hps ha
   ·simp at hc
  ·simp at hc
 case makeMap t r=>cases r<;>simp at hc;subst hc;exact YY ho ha
 case makeSlice t l c=>
  split at hc
  ·rename_i e ht
   simp only[Option.bind_eq_some_iff]at hc
   obtain⟨ie,hi,z,hz,hc⟩:=hc
   split at hc
   ·rename_i hb
    simp only[Option.bind_eq_some_iff,Option.map_eq_some_iff]at hc
    obtain⟨l',hl',c',hc',hc⟩:=hc
    simp at hc;subst hc
    exact Uc hρ ho ht hi hz hb.1 hb.2 hl' hc' ha
   ·simp at hc
  ·simp at hc
 case binOp op t x y t'=>
  obtain⟨ao',hb,hc⟩:=hc
  simp at hc;subst hc
  rw[(Vq hb).1]at hf;cases hf
 case call c=>rw[cL hc hl]at hf;cases hf
 case panic x=>simp at hc;subst hc;simp[B9.fresh]at hf
 case move=>obtain⟨_,_,hc⟩:=hc;simp at hc;subst hc;simp[B9.fresh]at hf
 case assign=>obtain⟨_,_,hc⟩:=hc;simp at hc;subst hc;simp[B9.fresh]at hf
 case pick=>obtain⟨_,_,_,_,_,_,hc⟩:=hc;simp at hc;subst hc;simp[B9.fresh]at hf
 case build=>
  obtain⟨_,_,hc⟩:=hc
  split at hc
  ·split at hc
   ·simp only[Option.map_eq_some_iff]at hc
    obtain⟨_,_,hc⟩:=hc;simp at hc;subst hc;simp[B9.fresh]at hf
   ·simp at hc
  ·simp only[Option.bind_eq_some_iff,Option.map_eq_some_iff]at hc
   obtain⟨_,_,_,_,hc⟩:=hc;simp at hc;subst hc;simp[B9.fresh]at hf
  ·simp at hc
 case load=>
  obtain⟨_,_,hc⟩:=hc
  split at hc
  ·simp only[Option.map_eq_some_iff]at hc
   obtain⟨_,_,hc⟩:=hc;simp at hc;subst hc;simp[B9.fresh]at hf
  ·simp at hc;subst hc;simp[B9.fresh]at hf
  ·simp at hc
 case store=>obtain⟨_,_,_,_,_,_,hc⟩:=hc;simp at hc;subst hc;simp[B9.fresh]at hf
 case nilCheck=>obtain⟨_,_,hc⟩:=hc;simp at hc;subst hc;simp[B9.fresh]at hf
 case unOp=>
  obtain⟨_,_,hc⟩:=hc
  split at hc<;>(simp at hc;subst hc;simp[B9.fresh]at hf)
 case convert=>
  obtain⟨_,_,hc⟩:=hc
  split at hc
  ·simp at hc;subst hc;simp[B9.fresh]at hf
  ·split at hc
   ·simp at hc;subst hc;simp[B9.light]at hl
   ·simp at hc
  ·simp at hc;subst hc;simp[B9.fresh]at hf
 case makeInterface=>
  split at hc
  ·simp at hc
  ·simp only[Option.map_eq_some_iff]at hc
   obtain⟨_,_,hc⟩:=hc;simp at hc;subst hc;simp[B9.fresh]at hf
  ·simp at hc
 case makeFunc=>
  split at hc
  ·simp only[Option.bind_eq_some_iff,Option.map_eq_some_iff]at hc
   obtain⟨_,_,_,_,hc⟩:=hc;simp at hc;subst hc;simp[B9.fresh]at hf
  ·simp at hc
 case slice=>
  obtain⟨_,_,_,_,_,_,_,_,hc⟩:=hc
  split at hc
  ·simp at hc
  ·split at hc
   ·simp only[Option.map_eq_some_iff]at hc
    obtain⟨_,_,hc⟩:=hc;simp at hc;subst hc;simp[B9.fresh]at hf
   ·simp only[Option.map_eq_some_iff]at hc
    obtain⟨_,_,hc⟩:=hc;simp at hc;subst hc;simp[B9.fresh]at hf
   ·simp at hc;subst hc;simp[B9.fresh]at hf
   ·simp at hc
 case fieldAddr=>
  split at hc
  ·simp only[Option.bind_eq_some_iff]at hc
   obtain⟨_,_,_,_,hc⟩:=hc
   split at hc
   ·simp at hc
   ·simp only[Option.map_eq_some_iff]at hc
    obtain⟨_,_,hc⟩:=hc;simp at hc;subst hc;simp[B9.fresh]at hf
  ·simp at hc
 case field=>
  split at hc
  ·simp only[Option.bind_eq_some_iff]at hc
   obtain⟨_,_,_,_,hc⟩:=hc
   split at hc
   ·simp only[Option.map_eq_some_iff]at hc
    obtain⟨_,_,hc⟩:=hc;simp at hc;subst hc;simp[B9.fresh]at hf
   ·simp at hc;subst hc;simp[B9.fresh]at hf
   ·simp at hc
  ·simp at hc
 case indexAddr=>
  obtain⟨_,_,_,_,hc⟩:=hc
  split at hc
  ·simp only[Option.map_eq_some_iff]at hc
   obtain⟨_,_,hc⟩:=hc;simp at hc;subst hc;simp[B9.fresh]at hf
  ·simp only[Option.map_eq_some_iff]at hc
   obtain⟨_,_,hc⟩:=hc;simp at hc;subst hc;simp[B9.fresh]at hf
  ·simp at hc
 case index=>
  obtain⟨_,_,_,_,hc⟩:=hc
  split at hc
  ·split at hc
   ·simp only[Option.map_eq_some_iff]at hc
    obtain⟨_,_,hc⟩:=hc;simp at hc;subst hc;simp[B9.fresh]at hf
   ·split at hc
    ·simp at hc;subst hc;simp[B9.fresh]at hf
    ·simp at hc
   ·simp at hc
  ·simp at hc;subst hc;simp[B9.fresh]at hf
  ·simp at hc
 case extract=>obtain⟨_,_,hc⟩:=hc;simp at hc;subst hc;simp[B9.fresh]at hf
 case typeAssert=>
  split at hc
  ·split at hc
   ·simp at hc
   ·simp only[Option.map_eq_some_iff]at hc
    obtain⟨_,_,hc⟩:=hc;simp at hc;subst hc;simp[B9.fresh]at hf
  ·simp only[Option.bind_eq_some_iff,Option.map_eq_some_iff]at hc
   obtain⟨_,_,_,_,hc⟩:=hc;simp at hc;subst hc;simp[B9.fresh]at hf
  ·simp at hc
 case lookup=>
  split at hc
  ·simp only[Option.bind_eq_some_iff,Option.map_eq_some_iff]at hc
   obtain⟨_,_,_,_,_,_,hc⟩:=hc;simp at hc;subst hc;simp[B9.fresh]at hf
  ·simp at hc
 case mapUpdate=>
  split at hc
  ·simp only[Option.bind_eq_some_iff,Option.map_eq_some_iff]at hc
   obtain⟨_,_,_,_,_,_,hc⟩:=hc;simp at hc;subst hc;simp[B9.fresh]at hf
  ·simp at hc
 case insert=>
  split at hc
  ·simp only[Option.bind_eq_some_iff,Option.map_eq_some_iff]at hc
   obtain⟨_,_,_,_,_,_,hc⟩:=hc;simp at hc;subst hc;simp[B9.fresh]at hf
  ·simp at hc
 case range=>
  split at hc
  ·simp only[Option.map_eq_some_iff]at hc
   obtain⟨_,_,hc⟩:=hc;simp at hc;subst hc;simp[B9.light]at hl
  ·simp only[Option.map_eq_some_iff]at hc
   obtain⟨_,_,hc⟩:=hc;simp at hc;subst hc;simp[B9.light]at hl
  ·simp at hc
 case next=>
  split at hc
  ·simp only[Option.map_eq_some_iff]at hc
   obtain⟨_,_,hc⟩:=hc;simp at hc;subst hc;simp[B9.light]at hl
  ·simp at hc
 case entry=>obtain⟨_,_,hc⟩:=hc;simp at hc;subst hc;simp[B9.light]at hl
 case mapEntry=>
  split at hc
  ·simp only[Option.bind_eq_some_iff,Option.map_eq_some_iff]at hc
   obtain⟨_,_,_,_,_,_,hc⟩:=hc;simp at hc;subst hc;simp[B9.light]at hl
  ·simp at hc
 case entryStore=>obtain⟨_,_,_,_,_,_,hc⟩:=hc;simp at hc;subst hc;simp[B9.light]at hl

end
end AE

/- Stores: abstract and in a world. -/
namespace AE
open Go Go.RowKit

structure But (b:Nat) (w w':World):Prop where
 os:w'.os=w.os
 tape:w'.tape=w.tape
 output:w'.output=w.output
 size:w'.heap.size=w.heap.size
 block:∀k,k≠b->w'.heap[k]? =w.heap[k]?

theorem But.setRow (w:World) (b:Nat) (cs:Array Value):But b w (w.setRow b cs):=by
 refine⟨rfl,rfl,rfl,by simp[World.setRow],fun k hk=>?_⟩
 simp only[World.setRow,Array.getElem?_modify]
 rw[if_neg (by omega)]

theorem LI {I:AZ}{vs:List Value}(hone:vs.all Value.oneCell'=true):∀v∈AX I vs,v.oneCell'=true:=by
 intro v hv'
 rw[IZ,List.mem_map]at hv'
 obtain⟨u,hu,rfl⟩:=hv'
 have:=List.all_eq_true.1 hone u hu
 match u with
 |.agg _=>simp[Value.oneCell']at this
 |.tuple _=>simp[Value.oneCell']at this
 |.pointer (some _)=>simp[ren,Value.oneCell']
 |.pointer none=>simp[ren,Value.oneCell']
 |.slice (some _) _ c=>rcases Nat.lt_or_ge c far with hc|hc<;>simp[CQ,Et,hc,Value.oneCell']
 |.slice none _ _=>simp[ren,Value.oneCell']
 |.map (some _)=>simp[ren,Value.oneCell']
 |.map none=>simp[ren,Value.oneCell']
 |.chan _=>simp[ren,Value.oneCell']
 |.func _ ⟨_⟩ ⟨_⟩=>simp[ren,Value.oneCell']
 |.iface _ _=>simp[ren,Value.oneCell']
 |.bool _=>simp[ren,Value.oneCell']
 |.int _ _=>simp[ren,Value.oneCell']
 |.float _ _=>simp[ren,Value.oneCell']
 |.complex _ _ _=>simp[ren,Value.oneCell']
 |.string _=>simp[ren,Value.oneCell']
 |.nilFunc=>simp[ren,Value.oneCell']
 |.nilIface=>simp[ren,Value.oneCell']
theorem LX {w:World}{b:Nat}{C:Array Value}(D:Array Value) {e:TypeId}(hb:w.heap[b]? =some (.cells C e (0,0))):(w.setRow b D).heap[b]? =some (.cells D e (0,0)):=by
 simp[World.setRow,Array.getElem?_modify,hb]

theorem Jw {P:Program}{I:AZ}{h h':H}{lo:Nat}{w:World}{a:Addr}{vs:List Value}{row:BQ}(hg:h.get a.block=some row) (k:Ci I a.block w row) (ha:Nm I a) (hv:C5 I vs) (hs:h.En lo a vs=some h'):
 lo<=a.block/\∃b row' w',Ew I a=some b/\h'=h.put a.block row'/\(storeCells b (AX I vs)).run P w= .ok () w'/\Ci I a.block w' row'/\But b.block w w'/\I.base<=b.block/\(∃s d,I.at_ a.block s=some (b.block,d)):=by
 obtain⟨p,hp⟩:=ha
 unfold H.En at hs
 split at hs
 ·rename_i hc
  obtain⟨hlo,hone⟩:=hc
  refine⟨hlo,⟨p.1,p.2+a.off,none⟩,?_⟩
  simp only[hg,Option.bind_some,Option.map_eq_some_iff]at hs
  obtain⟨row',hrow,rfl⟩:=hs
  have vJ:=LI (I:=I) hone
  have hheap:∀(b:Nat) (C D:Array Value) (e:TypeId),w.heap[b]? =some (.cells C e (0,0))->(w.setRow b D).heap[b]? =some (.cells D e (0,0)):=by
   intro b C D e hb
   simp[World.setRow,Array.getElem?_modify,hb]
  cases row with
  | cells c e=>
    cases hsp:a.spot with
    |some g=>rw[hsp]at hrow;simp[DI]at hrow
    | none=>
      rw[hsp]at hrow hp
      simp only[DI]at hrow
      split at hrow<;>simp at hrow
      rename_i hle
      subst hrow
      obtain⟨i,b,e1,e2,e3⟩:=k
      rw[hp]at e1;simp at e1;subst e1
      have hrun:=run_storeCells_at (P:=P) b (0+a.off) e (AX I vs) 0 ⟨AX I c⟩ w e3 (by simp;omega) vJ
      refine⟨.cells (splice c a.off vs) e,_,by simp only[Ew,hsp,hp],rfl,hrun,⟨NZ i hv,b,hp,e2,?_⟩,But.setRow _ _ _,e2,none,_,hp⟩
      rw[hheap b _ _ e e3,LA]
      simp[splice]
  | grow c e sz lens valid=>
    cases hsp:a.spot with
    |none=>rw[hsp]at hrow;simp[DI]at hrow
    | some g=>
      rw[hsp]at hrow hp
      simp only[DI]at hrow
      split at hrow<;>simp at hrow
      rename_i hle
      subst hrow
      obtain⟨i,h1,h2,hgen, -,h3⟩:=k
      obtain⟨hvl,hg1,hoff⟩:=hle
      obtain⟨b,d,C,e1,e2,e3,e4,e5,e6⟩:=h3 g hvl (by omega)
      rw[hp]at e1;simp at e1;subst e1
      have hgl:GN lens g=c.length:=by
       unfold GN
       rw[show lens.length - 1 - g=0 by omega]
       cases lens with
       |nil=>simp at h1
       |cons x xs=>simp at h1⊢;exact h1
      have hlr:(AX I vs).length=vs.length:=by simp
      have hrun:=run_storeCells_at (P:=P) b (d+a.off) e (AX I vs) 0 C w e3 (by rw[hlr];omega) vJ
      refine⟨.grow (splice c a.off vs) e sz lens g,_,by simp only[Ew,hsp,hp],rfl,hrun,⟨NZ i hv,?_,?_,hgen,fun g1 g2 b d d' v1 v2 x1 x2=>by obtain rfl:g1=g2:=(by have:=hgen _ _ x1;have:=hgen _ _ x2;omega);rw[x1]at x2;simp at x2;exact x2,?_⟩,But.setRow _ _ _,e2,some g,_,hp⟩
      ·rw[h1,M0 hoff]
      ·rw[M0 hoff];exact h2
      ·intro g' hg' hlt
       obtain rfl:g'=g:=by omega
       refine⟨b,d,_,hp,e2,hheap b _ _ e e3,?_,?_,?_⟩
       ·simp[hlr];omega
       ·have:(C.toList.take (d+a.off+0)++AX I vs++C.toList.drop (d+a.off+0+(AX I vs).length)).toArray.size=C.size:=by
         simp[hlr];omega
        rw[this];exact e5
       ·intro j hj
        rw[hgl]at hj
        have e6':∀j,j<c.length->C.toList[d+j]? =(AX I c)[j]? :=fun j hj=>by rw[Array.getElem?_toList];exact e6 j (by omega)
        rw[LA]
        simp only[List.getElem?_toArray,splice,List.append_assoc,List.getElem?_append,List.getElem?_take,List.getElem?_drop,List.length_take,hlr,Cw,Array.length_toList,Nat.add_zero]
        have m1:min (d+a.off) C.size=d+a.off:=by omega
        have m2:min a.off c.length=a.off:=by omega
        rw[m1,m2]
        by_cases h7:j<a.off
        ·rw[if_pos (by omega),if_pos (by omega),if_pos h7,if_pos h7,e6' j (by omega)]
        ·rw[if_neg (by omega),if_neg h7,show d+j - (d+a.off)=j - a.off by omega]
         by_cases h8:j - a.off<vs.length
         ·rw[if_pos h8,if_pos h8]
         ·rw[if_neg h8,if_neg h8,show d+a.off+vs.length+(j - a.off - vs.length)=d+(a.off+vs.length+(j - a.off - vs.length)) by omega,e6' _ (by omega)]
  |ro c=>simp[DI]at hrow
  |map es cl=>simp[DI]at hrow
  |iter m s l c=>simp[DI]at hrow
  |Oc s p=>simp[DI]at hrow
  |loop l=>simp[DI]at hrow
  |defers=>simp[DI]at hrow
  |gone=>simp[DI]at hrow
 ·simp at hs


theorem Rel.MO {I:AZ}{h:H}{w:World}{r:Nat}{row:BQ}(k:Rel I h w) (hd:I.dom r):∀r',(h.put r row).next<=r'->(h.put r row).get r'=none:=by
 intro r' hr'
 have hlt:=k.lt r hd
 simp only[H.put]at hr'⊢
 rw[if_neg (by omega)]
 exact k.clean r' hr'
theorem Rel.store {I:AZ}{h:H}{w w':World}{r b:Nat}{row:BQ}(k:Rel I h w) (hb:I.base<=b) (hr:∃s d,I.at_ r s=some (b,d)) (hw:But b w w') (hrow:Ci I r w' row):Rel I (h.put r row) w':=by
 obtain⟨s0,d0,hs0⟩:=hr
 refine⟨fun r' row' e d=>?_,k.lt,fun r' s b' d e=>by rw[hw.size];exact k.size _ _ _ _ e,by rw[hw.size];exact k.base,k.tabs.same (fun b' h1=>hw.block b' (by omega)),k.inj,k.MO ⟨_,_,hs0⟩⟩
 simp only[H.put]at e
 split at e
 ·rename_i hrr
  simp at e;subst hrr;subst e;exact hrow
 ·rename_i hrr
  refine(k.rows r' row' e d).le (Le.refl I) (fun _ _ e=>e) (fun b' ⟨s',d',hb'⟩=>hw.block b' (fun hbb=>?_))
  subst hbb
  exact hrr (k.inj _ _ _ _ _ _ _ hb' hs0 hb)
theorem But.ext {I:AZ}{lo b r:Nat}{w w':World}{s:Option Nat}{d:Nat}(hw:But b w w') (hl:lo<=r) (hr:I.at_ r s=some (b,d)) (hb:I.base<=b):Ext I lo w w':=by
 refine⟨hw.os,hw.tape,hw.output,by rw[hw.size];exact Nat.le_refl _,fun b' _ hx=>hw.block b' (fun e=>?_)⟩
 subst e
 have:=hx _ _ _ hr hb
 omega

section
variable {P:Program}{I:AZ}{ts:Ts}{ρ:Operand->Value}

def Ld (P:Program) (I:AZ) (ρ:Operand->Value) (o:Oper) (lo Br:Nat) (h':H) (v:Value) (w:World):Prop:=
 ∃J w' nx,(CK I J w/\(∀r,J.dom r->I.dom r\/r=Br)/\∀r s p,r<lo->J.at_ r s=some p->I.at_ r s=some p)/\Rel J h' w'/\In J v/\Ext I lo w w'/\(execOp ρ o).run P w= .ok nx w'/\(nx= .value (ren J v)\/(nx= .skip/\v=undef))

theorem V2 (hρ:Ev I ts ρ) {o:Oper}{t:TypeId}{n lo:Nat}{x y:Operand}{x' y':BH}{h h':H}{w:World}{v:Value}(ho:o.op= .store t x y) (hn:sizeT P t=some n) (hx:Bw x=some x') (hy:Bw y=some y')
 (hv:Kv lo n (Bf (ev ts y')) h (ev ts x')=some (v,h')) (k:∀a row,ev ts x'= .pointer (some a)->h.get a.block=some row->Ci I a.block w row):
 ∃a b row' w',ev ts x'= .pointer (some a)/\lo<=a.block/\v=undef/\h'=h.put a.block row'/\Ci I a.block w' row'/\But b w w'/\I.base<=b/\(∃s d,I.at_ a.block s=some (b,d))/\(execOp ρ o).run P w= .ok .skip w':=by
 obtain⟨e1,i1⟩:=hρ x x' hx
 obtain⟨e2,i2⟩:=hρ y y' hy
 unfold Kv at hv
 split at hv
 ·rename_i a ha
  rw[ha]at e1 i1
  split at hv<;>simp only[Option.map_eq_some_iff,Prod.mk.injEq,reduceCtorEq]at hv
  rename_i hlen
  obtain⟨h'',hs,rfl,rfl⟩:=hv
  cases hg:h.get a.block with
  | none=>
    unfold H.En at hs
    rw[hg]at hs
    split at hs<;>simp at hs
  | some row=>
    obtain⟨hlo,b,row',w',hb,rfl,hrun,hrow,De,hbase,hat⟩:=Jw (P:=P) hg (k a row ha hg) (by simpa[In]using i1) (Jo i2) hs
    refine⟨a,b.block,row',w',ha,hlo,rfl,rfl,hrow,De,hbase,hat,?_⟩
    have hlen':(⟨AX I (Bf (ev ts y'))⟩:Array Value).size=n:=by simp[hlen]
    simp only[execOp,ho,e1,e2,ren,hb,Instr.storeAt,Instr.sureAddr,storeVar,Sem.run_bind,Sem.run_pure,Result.andThen_ok,Cs hn,EI,Jj,hlen',ne_eq,not_true_eq_false,if_false,hrun]
 ·simp at hv

end
end AE
