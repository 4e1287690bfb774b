/- The evaluator and its laws: AEBase, AETabs, AEDefs, AELocal, AERead, AEComp, AELight, AELight2, AELight3, AERel, AEHeap, AEStore. No program in sight. -/
import Derived.WalkKit
import Derived.Orders
import Derived.Laws.CopyRow
set_option linter.unusedVariables false
set_option linter.unusedSimpArgs false
set_option linter.unusedSectionVars false

/- The abstract heap, and what it means that it lies in a world: rows are renamed into blocks. Plain definitions and lemmas; no program in sight. -/
namespace AE
open Go


structure Al where
 at_:Nat->Option Nat->Option (Nat × Nat)
 cap:Nat->Nat->Nat
 base:Nat

def Al.blk (I:Al) (r:Nat):Nat:=match I.at_ r none with|some p=>p.1|none=>0
def Al.dom (I:Al) (r:Nat):Prop:=∃s p,I.at_ r s=some p

def Cx (I:Al) (a:Addr):Option Addr:=match I.at_ a.block a.spot with|some p=>some ⟨p.1,p.2+a.off,none⟩|none=>none
def Bq (I:Al) (a:Addr) (c:Nat):Nat:=match a.spot with|none=>c|some g=>if c%2=1 then c / 2 else I.cap a.block g - c / 2
def DY (I:Al):Fn->Fn
 |.yield l=>.yield (I.blk l)
 |f=>f

def far:Nat:=2^70
def M8 (D o:Nat):Nat:=far+1+(D*4294967296+o)
def ZK (I:Al) (a:Addr) (c:Nat):Addr:=if c=far then a else match a.spot with
 |none=>a
 |some g=>if I.cap a.block g=(c - far - 1) / 4294967296 then(Cx I a).getD a else((Cx I a).getD a).add ((c - far - 1)%4294967296)
def ZJ (I:Al) (a:Addr) (c:Nat):Nat:=if c=far then 0 else match a.spot with
 |none=>0
 |some g=>I.cap a.block g - (c - far - 1) / 4294967296
mutual
def ren (I:Al):Value->Value
 |.pointer (some a)=>.pointer (Cx I a)
 |.slice (some a) n c=>if far<=c then .slice (some (ZK I a c)) n (ZJ I a c)else .slice (Cx I a) n (Bq I a c)
 |.map (some r)=>.map (some (I.blk r))
 |.func fn ⟨f⟩ ⟨c⟩=>.func (DY I fn) ⟨Ah I f⟩ ⟨Ah I c⟩
 |.iface t v=>.iface t (ren I v)
 |.agg ⟨cs⟩=>.agg ⟨Ah I cs⟩
 |.tuple ⟨vs⟩=>.tuple ⟨Ah I vs⟩
 |v=>v
def Ah (I:Al):List Value->List Value
 |[]=>[]
 |v::vs=>ren I v::Ah I vs
end

def Jt (I:Al) (a:Addr):Prop:=∃p,I.at_ a.block a.spot=some p
def C6 (I:Al) (a:Addr) (n c:Nat):Prop:=match a.spot with|none=>n<=c|some g=>if c%2=1 then n<=c / 2 else c / 2+n<=I.cap a.block g
def eM (I:Al) (r:Nat):Prop:=∃b,I.at_ r none=some (b,0)
def Gn (I:Al):Fn->Prop
 |.yield l=>eM I l
 |_=>True

mutual
def In (I:Al):Value->Prop
 |.pointer (some a)=>Jt I a
 |.slice (some a) n c=>if far<=c then n=0/\(c=far\/Jt I a)else Jt I a/\C6 I a n c
 |.slice none n c=>n=0/\c=0
 |.map (some r)=>eM I r
 |.chan (some _)=>False
 |.func fn ⟨f⟩ ⟨c⟩=>Gn I fn/\BH I f/\BH I c
 |.iface _ v=>In I v
 |.agg ⟨cs⟩=>BH I cs
 |.tuple ⟨vs⟩=>BH I vs
 |_=>True
def BH (I:Al):List Value->Prop
 |[]=>True
 |v::vs=>In I v/\BH I vs
end

theorem BD {I:Al}{a:Addr}{n c:Nat}(h:c<far):ren I (.slice (some a) n c)= .slice (Cx I a) n (Bq I a c):=by
 simp only[ren];rw[if_neg (Nat.not_le.2 h)]
theorem B8 {I:Al}{a:Addr}{n c:Nat}(h:c<far):In I (.slice (some a) n c)↔(Jt I a/\C6 I a n c):=by
 simp only[In];rw[if_neg (Nat.not_le.2 h)]
theorem CR {I:Al}{a:Addr}{n c:Nat}(h:far<=c):ren I (.slice (some a) n c)= .slice (some (ZK I a c)) n (ZJ I a c):=by
 simp only[ren];rw[if_pos h]
theorem I8 {I:Al}{a:Addr}{n c:Nat}(h:far<=c):In I (.slice (some a) n c)↔(n=0/\(c=far\/Jt I a)):=by
 simp only[In];rw[if_pos h]
theorem Hj (I:Al) (a:Addr):ZK I a far=a:=if_pos rfl
theorem Hh (I:Al) (a:Addr):ZJ I a far=0:=if_pos rfl
theorem FZ (I:Al):∀l:List Value,Ah I l=l.map (ren I)
 |[]=>by simp[Ah]
 |v::vs=>by simp[Ah,FZ I vs]
theorem Js (I:Al):∀l:List Value,BH I l↔∀v∈l,In I v
 |[]=>by simp[BH]
 |v::vs=>by simp[BH,Js I vs]
@[simp] theorem Bp (I:Al) (l:List Value):(Ah I l).length=l.length:=by simp[FZ]
theorem BO (I:Al) (l:List Value) (i:Nat):(Ah I l)[i]? =(l[i]?).map (ren I):=by simp[FZ]
theorem Eb {I:Al}{l:List Value}(h:BH I l) {i:Nat}{v:Value}(hi:l[i]? =some v):In I v:=
 (Js I l).1 h v (List.mem_of_getElem? hi)
theorem B4 {I:Al}{a b:List Value}:BH I (a++b)↔BH I a/\BH I b:=by
 simp only[Js,List.mem_append]
 constructor
 ·intro h;exact⟨fun v hv=>h v (.inl hv),fun v hv=>h v (.inr hv)⟩
 ·rintro⟨h,k⟩ v (hv|hv)
  ·exact h v hv
  ·exact k v hv
theorem BM (I:Al) (a b:List Value):Ah I (a++b)=Ah I a++Ah I b:=by simp[FZ]


structure Le (I J:Al):Prop where
 at_:∀r s p,I.at_ r s=some p->J.at_ r s=some p
 cap:∀r g p,I.at_ r (some g)=some p->J.cap r g=I.cap r g
 base:J.base=I.base

theorem Le.refl (I:Al):Le I I:=⟨fun _ _ _ h=>h,fun _ _ _ _=>rfl,rfl⟩
theorem Le.trans {I J K:Al}(h:Le I J) (k:Le J K):Le I K:=
 ⟨fun r s p e=>k.at_ r s p (h.at_ r s p e),fun r g p e=>(k.cap r g p (h.at_ r _ p e)).trans (h.cap r g p e),k.base.trans h.base⟩
theorem Le.dom {I J:Al}(h:Le I J) {r:Nat}:I.dom r->J.dom r:=fun⟨s,p,e⟩=>⟨s,p,h.at_ r s p e⟩
theorem Le.blk {I J:Al}(h:Le I J) {r:Nat}(hr:eM I r):J.blk r=I.blk r:=by
 obtain⟨b,hb⟩:=hr
 simp[Al.blk,hb,h.at_ _ _ _ hb]
theorem Le.qm {I J:Al}(h:Le I J) {r:Nat}:eM I r->eM J r:=fun⟨b,hb⟩=>⟨b,h.at_ _ _ _ hb⟩
theorem Le.Cx {I J:Al}(h:Le I J) {a:Addr}(ha:Jt I a):Cx J a=Cx I a:=by
 obtain⟨p,hp⟩:=ha
 simp[AE.Cx,hp,h.at_ _ _ _ hp]
theorem Le.qo {I J:Al}(h:Le I J) {a:Addr}:Jt I a->Jt J a:=fun⟨p,hp⟩=>⟨p,h.at_ _ _ _ hp⟩
theorem Le.Bq {I J:Al}(h:Le I J) {a:Addr}{c:Nat}(ha:Jt I a):Bq J a c=Bq I a c:=by
 obtain⟨p,hp⟩:=ha
 unfold AE.Bq
 cases hs:a.spot with
 |none=>rfl
 |some g=>rw[hs]at hp;simp[h.cap _ _ _ hp]
theorem Le.kW {I J:Al}(h:Le I J) {a:Addr}{n c:Nat}(ha:Jt I a) (hc:C6 I a n c):C6 J a n c:=by
 obtain⟨p,hp⟩:=ha
 unfold C6 at*
 cases hs:a.spot with
 |none=>rw[hs]at hc;exact hc
 |some g=>rw[hs]at hp hc;simp only[h.cap _ _ _ hp]at*;exact hc
theorem Le.DY {I J:Al}(h:Le I J) {f:Fn}(hf:Gn I f):DY J f=DY I f:=by
 cases f<;>simp only[AE.DY]
 rw[h.blk hf]
theorem Le.qn {I J:Al}(h:Le I J) {f:Fn}(hf:Gn I f):Gn J f:=by
 cases f<;>simp only[Gn]at*
 exact h.qm hf

mutual
theorem Le.ren {I J:Al}(h:Le I J):∀v:Value,In I v->ren J v=ren I v/\In J v
 |.pointer (some a),hv=>by simp only[In,AE.ren]at*;exact⟨by rw[h.Cx hv],h.qo hv⟩
 |.pointer none,_=>by simp[In,AE.ren]
 | .slice (some a) n c,hv=>by
   rcases Nat.lt_or_ge c far with hc|hc
   ·rw[B8 hc]at hv
    rw[BD hc,BD hc,B8 hc]
    exact⟨by rw[h.Cx hv.1,h.Bq hv.1],h.qo hv.1,h.kW hv.1 hv.2⟩
   ·rw [I8 hc]at hv
    rw[CR hc,CR hc,I8 hc]
    obtain⟨h0,hv⟩:=hv
    rcases hv with rfl|hv
    ·rw[Hj,Hj,Hh,Hh]
     exact⟨rfl,h0,.inl rfl⟩
    ·refine⟨?_,h0,.inr (h.qo hv)⟩
     have e1:=h.Cx hv
     unfold ZK ZJ
     rw[e1]
     cases hs:a.spot with
     |none=>rfl
     | some g=>
       obtain⟨p,hp⟩:=hv
       rw[hs]at hp
       dsimp only
       rw[h.cap _ _ _ hp]
 |.slice none n c,hv=>by simp only[In]at hv;obtain⟨rfl,rfl⟩:=hv;simp[In,AE.ren]
 |.map (some r),hv=>by simp only[In,AE.ren]at*;exact⟨by rw[h.blk hv],h.qm hv⟩
 |.map none,_=>by simp[In,AE.ren]
 |.chan (some _),hv=>by simp[In]at hv
 |.chan none,_=>by simp[In,AE.ren]
 | .func fn ⟨f⟩ ⟨c⟩,hv=>by
   simp only[In,AE.ren]at*
   obtain⟨e1,i1⟩:=Le.Ah h f hv.2.1
   obtain⟨e2,i2⟩:=Le.Ah h c hv.2.2
   exact⟨by rw[h.DY hv.1,e1,e2],h.qn hv.1,i1,i2⟩
 | .iface t v,hv=>by
   simp only[In,AE.ren]at*
   obtain⟨e,i⟩:=Le.ren h v hv
   exact⟨by rw[e],i⟩
 | .agg ⟨cs⟩,hv=>by
   simp only[In,AE.ren]at*
   obtain⟨e,i⟩:=Le.Ah h cs hv
   exact⟨by rw[e],i⟩
 | .tuple ⟨vs⟩,hv=>by
   simp only[In,AE.ren]at*
   obtain⟨e,i⟩:=Le.Ah h vs hv
   exact⟨by rw[e],i⟩
 |.bool _,_=>by simp[In,AE.ren]
 |.int _ _,_=>by simp[In,AE.ren]
 |.float _ _,_=>by simp[In,AE.ren]
 |.complex _ _ _,_=>by simp[In,AE.ren]
 |.string _,_=>by simp[In,AE.ren]
 |.nilFunc,_=>by simp[In,AE.ren]
 |.nilIface,_=>by simp[In,AE.ren]
theorem Le.Ah {I J:Al}(h:Le I J):∀l:List Value,BH I l->Ah J l=Ah I l/\BH J l
 |[],_=>by simp[AE.Ah,BH]
 | v::vs,hv=>by
   simp only[BH,AE.Ah]at*
   obtain⟨e1,i1⟩:=Le.ren h v hv.1
   obtain⟨e2,i2⟩:=Le.Ah h vs hv.2
   exact⟨by rw[e1,e2],i1,i2⟩
end


def LA:Fn->Bool
 |.yield _=>false
 |_=>true
mutual
def flat:Value->Bool
 |.bool _|.int _ _|.float _ _|.complex _ _ _|.string _|.nilFunc|.nilIface=>true
 |.pointer a=>a.isNone
 |.slice a n c=>a.isNone&&n==0&&c==0
 |.map r=>r.isNone
 |.chan r=>r.isNone
 |.func fn ⟨f⟩ ⟨c⟩=>LA fn&&B7 f&&B7 c
 |.iface _ v=>flat v
 |.agg ⟨cs⟩=>B7 cs
 |.tuple ⟨vs⟩=>B7 vs
def B7:List Value->Bool
 |[]=>true
 |v::vs=>flat v&&B7 vs
end

mutual
theorem Bi (I:Al):∀v:Value,flat v=true->ren I v=v/\In I v
 |.pointer (some a),h=>by simp[flat]at h
 |.pointer none,_=>by simp[In,ren]
 |.slice (some a) n c,h=>by simp[flat]at h
 |.slice none n c,h=>by simp[flat]at h;simp[In,ren,h]
 |.map (some r),h=>by simp[flat]at h
 |.map none,_=>by simp[In,ren]
 |.chan (some _),h=>by simp[flat]at h
 |.chan none,_=>by simp[In,ren]
 | .func fn ⟨f⟩ ⟨c⟩,h=>by
   simp only[flat,Bool.and_eq_true]at h
   obtain⟨e1,i1⟩:=CN I f h.1.2
   obtain⟨e2,i2⟩:=CN I c h.2
   have hf:DY I fn=fn/\Gn I fn:=by cases fn<;>simp_all[LA,DY,Gn]
   simp only[ren,In]
   exact⟨by rw[hf.1,e1,e2],hf.2,i1,i2⟩
 | .iface t v,h=>by
   simp only[flat]at h
   obtain⟨e,i⟩:=Bi I v h
   simp only[ren,In];exact⟨by rw[e],i⟩
 | .agg ⟨cs⟩,h=>by
   simp only[flat]at h
   obtain⟨e,i⟩:=CN I cs h
   simp only[ren,In];exact⟨by rw[e],i⟩
 | .tuple ⟨vs⟩,h=>by
   simp only[flat]at h
   obtain⟨e,i⟩:=CN I vs h
   simp only[ren,In];exact⟨by rw[e],i⟩
 |.bool _,_=>by simp[In,ren]
 |.int _ _,_=>by simp[In,ren]
 |.float _ _,_=>by simp[In,ren]
 |.complex _ _ _,_=>by simp[In,ren]
 |.string _,_=>by simp[In,ren]
 |.nilFunc,_=>by simp[In,ren]
 |.nilIface,_=>by simp[In,ren]
theorem CN (I:Al):∀l:List Value,B7 l=true->Ah I l=l/\BH I l
 |[],_=>by simp[Ah,BH]
 | v::vs,h=>by
   simp only[B7,Bool.and_eq_true]at h
   obtain⟨e1,i1⟩:=Bi I v h.1
   obtain⟨e2,i2⟩:=CN I vs h.2
   simp only[Ah,BH];exact⟨by rw[e1,e2],i1,i2⟩
end


def Aq:Value->List Value
 |.agg ⟨cs⟩=>cs
 |v=>[v]
theorem C4 (v:Value):v.cells=⟨Aq v⟩:=by cases v<;>rfl
theorem MB (I:Al) (cs:List Value):ren I (.agg ⟨cs⟩)= .agg ⟨Ah I cs⟩:=by simp[ren]
theorem Gd (I:Al) (v:Value):Aq (ren I v)=Ah I (Aq v):=by
 match v with
 |.agg ⟨cs⟩=>simp[ren,Aq]
 |.pointer (some a)=>simp[ren,Aq,Ah]
 |.pointer none=>simp[ren,Aq,Ah]
 |.slice (some a) n c=>rcases Nat.lt_or_ge c far with hc|hc<;>simp[BD,CR,hc,Aq,Ah]
 |.slice none n c=>simp[ren,Aq,Ah]
 |.map (some r)=>simp[ren,Aq,Ah]
 |.map none=>simp[ren,Aq,Ah]
 |.chan _=>simp[ren,Aq,Ah]
 |.func fn ⟨f⟩ ⟨c⟩=>simp[ren,Aq,Ah]
 |.iface t v=>simp[ren,Aq,Ah]
 |.tuple ⟨vs⟩=>simp[ren,Aq,Ah]
 |.bool _=>simp[ren,Aq,Ah]
 |.int _ _=>simp[ren,Aq,Ah]
 |.float _ _=>simp[ren,Aq,Ah]
 |.complex _ _ _=>simp[ren,Aq,Ah]
 |.string _=>simp[ren,Aq,Ah]
 |.nilFunc=>simp[ren,Aq,Ah]
 |.nilIface=>simp[ren,Aq,Ah]
theorem Gj {I:Al}{v:Value}(h:In I v):BH I (Aq v):=by
 match v with
 |.agg ⟨cs⟩=>simpa[In,Aq]using h
 |.pointer (some a)=>simpa[Aq,BH]using h
 |.pointer none=>simp[Aq,BH,In]
 |.slice (some a) n c=>simpa[Aq,BH]using h
 |.slice none n c=>simpa[Aq,BH]using h
 |.map (some r)=>simpa[Aq,BH]using h
 |.map none=>simp[Aq,BH,In]
 |.chan (some _)=>simp[In]at h
 |.chan none=>simp[Aq,BH,In]
 |.func fn ⟨f⟩ ⟨c⟩=>simpa[Aq,BH]using h
 |.iface t v=>simpa[Aq,BH]using h
 |.tuple ⟨vs⟩=>simpa[Aq,BH]using h
 |.bool _=>simp[Aq,BH,In]
 |.int _ _=>simp[Aq,BH,In]
 |.float _ _=>simp[Aq,BH,In]
 |.complex _ _ _=>simp[Aq,BH,In]
 |.string _=>simp[Aq,BH,In]
 |.nilFunc=>simp[Aq,BH,In]
 |.nilIface=>simp[Aq,BH,In]

end AE

/- The tables of the library's that the walk reads: the number of the variable, its cells. (Clerk: strconv's powers of ten, variable 0.) -/
namespace AE
open Go
def Np:List Int:=(List.range 20).map fun i=>((10^i:Nat):Int)
def PW:List (Nat × List Value):=[(0,Np.map (Value.int .u64))]
end AE

/- The code of the abstract evaluator, its heap, and its single operations. Definitions alone. -/
namespace AE
open Go


inductive AP where
 |t (n:Nat)
 |c (v:Value)
 |m (n:Nat) (nm:String)

inductive aL where
 |add|sub|mul|eql|neq|lss|leq|gtr|geq

inductive Bn where
 |mv (x:AP)
 |pick (c a b:AP)
 |alloc (z:List Value) (e:TypeId)
 |box (x:AP) (e:TypeId)
 |build (z:List Value) (parts:List (Nat × Nat × AP))
 |CI (z:List Value) (parts:List (Nat × Nat × AP)) (len:Nat) (e:TypeId)
 |Ad (a:AP)
 |Bb (n:Nat) (a:AP)
 |store (n:Nat) (a x:AP)
 |AY (x:AP)
 |int (op:aL) (x y:AP)
 |Ls (q:Bool) (x y:AP)
 |not (x:AP)
 |neg (x:AP)
 |conv (k:IntKind) (x:AP)
 |R9 (mx:Bool) (x y:AP)
 |pure (o:Oper)
 |cmp (sl:Option Bool) (ne:Bool) (x y:AP) (o:Oper)
 |Jw (t:TypeId) (x:AP)
 |NC (fn:Fn) (first captured:List AP)
 |II
 |FJ (z:List Value) (bytes:Nat) (e:TypeId) (l c:AP)
 |Io (n sz:Nat) (x:AP) (lo hi mx:Option AP)
 |Hw (sz:Nat) (x:AP) (lo hi mx:Option AP)
 |Ab (off:Nat) (x:AP)
 |field1 (off:Nat) (x:AP)
 |N2 (off n:Nat) (x:AP)
 |Hf (n sz:Nat) (x i:AP)
 |D4 (sz:Nat) (x i:AP)
 |gu (n:Nat) (x i:AP)
 |Xg (n sz:Nat) (x i:AP)
 |extract (x:AP) (i:Nat)
 |Yi (t:TypeId) (z:Value) (ok:Bool) (x:AP)
 |M6 (t:TypeId) (x:AP)
 |lookup (kt:TypeId) (z:Value) (ok:Bool) (m k:AP)
 |Fs (kt:TypeId) (m k v:AP)
 |len (x:AP)
 |Qz (x:AP)
 |JR (x:AP)
 |jk (x:AP)
 |cap (x:AP)
 |append (e:TypeId) (sz bytes:Nat) (s x:AP)
 |copy (sz:Nat) (d s:AP)
 |aO (z:List Value) (x:AP)
 |dead
 |delete (kt:TypeId) (m k:AP)
 |EN (m:AP)
 |JO (x:AP)
 |JB (x:AP)
 |entry (x:AP)
 |Ez (kt:TypeId) (z:Value) (m k:AP)
 |GC (m s v:AP)

inductive LX where
 |op (o:Bn)
 |call (f:AP) (args:List AP)

structure Ao where
 dst:Option Nat
 guard:Option (Nat × Bool)
 ins:LX

inductive Aj where
 |skip
 |ret
 |exit (id:Nat)
 |seq (a b:Aj)
 |cond (c:AP) (a b:Aj)
 |block (id:Nat) (c:Aj)
 |loop (c:Aj)
 |reg (ops:List Ao)
 |Ck (ops:List Ao) (apart:List (AP × AP))
 |range (f:AP) (params:List Nat) (n:Nat) (CB body:Code) (vq sk:Aj)
 |next(x:AP) (a b:Nat)

inductive OJ where
 |none|ret|exit (id:Nat)

abbrev Ts:=Nat->Value
def GL (ts:Ts) (i:Nat) (v:Value):Ts:=fun j=>if j=i then v else ts j

structure DN where
 state:LoopState
 pend:OJ
 size:Nat
 tmps:Ts
 params:List Nat
 CB:Code
 body:Code

inductive A9 where
 |cells (c:List Value) (e:TypeId)
 |ro (c:List Value)
 |grow (c:List Value) (e:TypeId) (sz:Nat) (lens:List Nat) (valid:Nat)
 |map (es:List MapEntry) (clock:Nat)
 |iter (m since:Nat) (seen:List Nat) (last:Nat)
 |Ki (s:ByteArray) (pos:Nat)
 |loop (l:DN)
 |defers
 |gone

structure H where
 get:Nat->Option A9
 next:Nat

def H.put (h:H) (r:Nat) (x:A9):H:=⟨fun j=>if j=r then some x else h.get j,h.next⟩
def H.empty:H:=⟨fun _=>none,0⟩

def cut {α:Type}(xs:List α) (off n:Nat):Option (List α):=if off+n<=xs.length then some ((xs.drop off).take n)else none
def splice {α:Type}(xs:List α) (off:Nat) (ys:List α):List α:=xs.take off++ys++xs.drop (off+ys.length)

def Ea (lens:List Nat) (g:Nat):Nat:=(lens[lens.length - 1 - g]?).getD 0

def Br (off n:Nat):A9->Option Nat->Option (List Value)
 |.cells c _,none=>cut c off n
 |.ro c,none=>cut c off n
 |.grow c _ _ lens valid,some g=>if valid<=g/\g<lens.length/\off+n<=Ea lens g then cut c off n else none
 |_,_=>none

def H.Az (h:H) (a:Addr) (n:Nat):Option (List Value):=(h.get a.block).bind fun row=>Br a.off n row a.spot

def Cw (off:Nat) (vs:List Value):A9->Option Nat->Option A9
 |.cells c e,none=>if off+vs.length<=c.length then some (.cells (splice c off vs) e)else none
 |.grow c e sz lens valid,some g=>if valid<=g/\g+1=lens.length/\off+vs.length<=c.length then some (.grow (splice c off vs) e sz lens g)else none
 |_,_=>none

def H.Df (h:H) (lo:Nat) (a:Addr) (vs:List Value):Option H:=
 if lo<=a.block/\vs.all Value.oneCell'=true then(h.get a.block).bind fun row=>(Cw a.off vs row a.spot).map fun row'=>h.put a.block row' else none


def Au {α:Type}(P:Program):Sem α->Option α
 |.pure a=>some a
 |.program k=>Au P (k P)
 |_=>none

def ev (ts:Ts):AP->Value
 |.t n=>ts n
 |.c v=>v
 |.m n nm=>.func (.method nm) ⟨[ts n]⟩ ⟨[]⟩

def BB (a:Addr) (n:Nat):Addr:=⟨a.block,a.off+n,a.spot⟩

def Gk (z:List Value):Nat->List Value
 |0=>[]
 |n+1=>z++Gk z n

def E5 (ts:Ts):List Value->List (Nat × Nat × AP)->Option (List Value)
 |cells,[]=>some cells
 | cells,(off,size,x)::rest=>
   if(Aq (ev ts x)).length=size/\off+size<=cells.length then E5 ts (splice cells off (Aq (ev ts x))) rest else none

abbrev R:=Option (Value × H)

def G2 (Av:Nat) (e:TypeId) (c:List Value) (h:H):R:=some (.pointer (some ⟨Av,0,none⟩),h.put Av (.cells c e))

def OM (a b:Value):Value->Option Value
 |.bool t=>some (if t then a else b)
 |_=>none
def GK (h:H):Value->Option Value
 |.pointer (some a)=>(h.Az a 1).bind (·[0]?)
 |_=>none
def GJ (n:Nat) (h:H):Value->Option Value
 |.pointer (some a)=>(h.Az a n).map fun l=>.agg ⟨l⟩
 |_=>none
def Hs (lo n:Nat) (vs:List Value) (h:H):Value->R
 |.pointer (some a)=>if vs.length=n then(h.Df lo a vs).map fun h'=>(undef,h')else none
 |_=>none
def MR:Value->Option Value
 |.pointer (some a)=>some (.pointer (some a))
 |_=>none

def Rl (n:Int):Int:=IntKind.i64.wrap n
def Tp:aL->Int->Int->Value
 |.add,a,b=>.int .i64 (Rl (a+b))
 |.sub,a,b=>.int .i64 (Rl (a - b))
 |.mul,a,b=>.int .i64 (Rl (a*b))
 |.eql,a,b=>.bool (a==b)
 |.neq,a,b=>.bool (a !=b)
 |.lss,a,b=>.bool (a<b)
 |.leq,a,b=>.bool (a<=b)
 |.gtr,a,b=>.bool (a>b)
 |.geq,a,b=>.bool (a>=b)
def XY (op:aL):Value->Value->Option Value
 |.int .i64 a,.int .i64 b=>some (Tp op a b)
 |_,_=>none
def LY (q:Bool):Value->Value->Option Value
 |.int .i64 a,.int .i64 b=>if b=0 then none else some (.int .i64 (if q then Rl (a.tdiv b)else a.tmod b))
 |_,_=>none
def Wa:Value->Option Value
 |.bool b=>some (.bool (!b))
 |_=>none
def aS:Value->Option Value
 |.int .i64 a=>some (.int .i64 (Rl (0 - a)))
 |_=>none
def U1 (k:IntKind):Value->Option Value
 |.int _ n=>some (.int k (k.wrap n))
 |_=>none
def OO (mx:Bool):Value->Value->Option Value
 |.int .i64 a,.int .i64 b=>some (.int .i64 (if mx then(if a<b then b else a)else(if b<a then b else a)))
 |_,_=>none

def Kt:Option Next->Option Value
 |some (.value v)=>if flat v then some v else none
 |_=>none
def Ii (ts:Ts):Operand->Value
 |.tmp t=>ts t
 |.const v=>v
 |.global _=>undef
 |.func f=>.func (.func f) #[] #[]
def EJ (P:Program) (ts:Ts) (o:Oper):Option Value:=
 if o.op.operands.toList.all (fun x=>flat (Ii ts x))then Kt (Au P (execOp (Ii ts) o))else none

def ZT (sl:Option Bool):Value->Value->Option Bool
 |.pointer a,.pointer b=>if sl=some false/\(a.isNone\/b.isNone)then some (a.isNone&&b.isNone)else none
 |.slice a _ _,.slice b _ _=>if sl=some true/\(a.isNone\/b.isNone)then some (a.isNone&&b.isNone)else none
 |.map a,.map b=>if sl=none/\(a.isNone\/b.isNone)then some (a.isNone&&b.isNone)else none
 |_,_=>none
def Vl (P:Program) (sl:Option Bool) (o:Oper):Value->Value->Bool
 | .pointer (some a),.pointer (some b)=>decide (a=b)&&(sl==some false)&&(match o.op with
   | .binOp _ t _ _ _=>(match P.underlying t with
     |some (.pointer e)=>(P.info? e).isSome
     |_=>false)
   |_=>false)
 |_,_=>false
def aT (P:Program) (sl:Option Bool) (ne:Bool) (ts:Ts) (x y:AP) (o:Oper):Option Value:=
 match ZT sl (ev ts x) (ev ts y)with
 |some b=>some (.bool (b !=ne))
 |none=>if Vl P sl o (ev ts x) (ev ts y)=true then some (.bool (!ne))else EJ P ts o

def Cv :Value->Option Nat
 |.int _ n=>if 0<=n then some n.toNat else none
 |_=>none
def BP (d:Nat):Option Value->Option Nat
 |none=>some d
 |some v=>Cv v

def GR (Av:Nat) (z:List Value) (bytes:Nat) (e:TypeId) (h:H):Option Nat->Option Nat->R
 |some l,some c=>if l<=c/\(c+1) * (bytes+1)<=2^40 then some (.slice (some ⟨Av,0,none⟩) l c,h.put Av (.cells (Gk z c) e))else none
 |_,_=>none

def CV (a:Addr) (l m sz:Nat):Addr:=if m=l then a else BB a (l*sz)
def De (enc:Nat->Nat) (c sz:Nat) (a:Addr):Option Nat->Option Nat->Option Nat->Option Value
 |some l,some hi,some m=>if m<=c/\hi<=m/\l<=hi/\enc (m - l)<far then some (.slice (some (CV a l m sz)) (hi - l) (enc (m - l)))else none
 |_,_,_=>none
def Yo (len cap sz:Nat) (a:Addr):Option Nat->Option Nat->Option Value
 | some l,some hi=>if hi<=len/\l<=hi/\(l=0\/l<len)/\cap+2*l<far then some (.slice (some (BB a (l*sz))) (hi - l) (cap+2*l))else
   if hi<=len/\l=hi/\l=len/\l*sz<4294967296 then some (.slice (some a) 0 (M8 (cap / 2+l) (l*sz)))else none
 |_,_=>none
def enc1 (c:Nat):Nat:=c
def enc2 (c:Nat):Nat:=2*c+1
def VM:Option Nat->Nat->Nat
 |none=>enc1
 |some _=>enc2
def Qa (len cap sz:Nat) (a:Addr) (lo hi mx:Option Value):Option Value:=
 if cap%2=1 then De enc2 (cap / 2) sz a (BP 0 lo) (BP len hi) (BP (cap / 2) mx)
 else match mx with
  |none=>Yo len cap sz a (BP 0 lo) (BP len hi)
  |some m=>De enc2 len sz a (BP 0 lo) (BP len hi) (Cv m)
def U7:Option Nat->Option Nat->Option Nat->Option Value
 |some l,some hi,some m=>if l=0/\hi=0/\m=0 then some (.slice none 0 0)else none
 |_,_,_=>none
def Yp (a:Addr):Option Nat->Option Nat->Option Nat->Option Value
 |some l,some hi,some m=>if l=0/\hi=0/\m=0 then some (.slice (some a) 0 far)else none
 |_,_,_=>none
def Hw (sz:Nat) (lo hi mx:Option Value):Value->Option Value
 | .slice (some a) len cap=>
   if far<=cap then(if cap=far then Yp a (BP 0 lo) (BP 0 hi) (BP 0 mx)else none)else
   match a.spot with
   |none=>De enc1 cap sz a (BP 0 lo) (BP len hi) (BP cap mx)
   |some _=>Qa len cap sz a lo hi mx
 |.slice none 0 0=>U7 (BP 0 lo) (BP 0 hi) (BP 0 mx)
 |_=>none
def Io (n sz:Nat) (lo hi mx:Option Value):Value->Option Value
 |.pointer (some a)=>De (VM a.spot) n sz a (BP 0 lo) (BP n hi) (BP n mx)
 |_=>none

def MV (off:Nat):Value->Option Value
 |.pointer (some a)=>some (.pointer (some (BB a off)))
 |_=>none
def Ke (off:Nat):Value->Option Value
 |.agg cs=>cs.toList[off]?
 |_=>none
def My (off n:Nat):Value->Option Value
 |.agg cs=>(cut cs.toList off n).map fun l=>.agg ⟨l⟩
 |_=>none
def MU (n sz:Nat) (i:Value):Value->Option Value
 |.pointer (some a)=>(Cv i).bind fun i=>if i<n then some (.pointer (some (BB a (i*sz))))else none
 |_=>none
def Rs (sz:Nat) (i:Value):Value->Option Value
 |.slice (some a) n _=>(Cv i).bind fun i=>if i<n then some (.pointer (some (BB a (i*sz))))else none
 |_=>none
def XX (n:Nat) (i:Value):Value->Option Value
 |.agg cs=>(Cv i).bind fun i=>if i<n then cs.toList[i]? else none
 |_=>none
def XW (n sz:Nat) (i:Value):Value->Option Value
 |.agg cs=>(Cv i).bind fun i=>if i<n then(cut cs.toList (i*sz) sz).map fun l=>.agg ⟨l⟩else none
 |_=>none
def Ik (i:Nat):Value->Option Value
 |.tuple vs=>vs.toList[i]?
 |_=>none
def XT (t:TypeId) (z:Value) (ok:Bool):Value->Option Value
 |.iface u v=>if u=t then some (if ok then .tuple #[v,.bool true]else v)else if ok then some (.tuple #[z,.bool false])else none
 |.nilIface=>if ok then some (.tuple #[z,.bool false])else none
 |_=>none

def I9 (P:Program) (t:TypeId):Value->Option Value
 | .iface u v=>match P.underlying t,P.info? u with
   |some (.interface want),some i=>if(Instr.missingMethod want i.methods).isNone=true then some (.iface u v)else none
   |_,_=>none
 |_=>none


def Od (s:ByteArray) (n:Nat):List Value:=(s.extract 0 n).data.toList.map fun b=>Value.int .u8 b.toNat

def Ca (h:H) (sz n:Nat):Value->Option (List Value)
 |.slice (some a) _ c=>if far<=c then(if n=0 then some []else none)else h.Az a (n*sz)
 |.slice none _ _=>some []
 |.string s=>if sz=1/\n<=s.size then some (Od s n)else none
 |_=>none
def Ws:List Value->ByteArray->Option ByteArray
 |[],s=>some s
 |.int .u8 n::t,s=>Ws t (s.push (UInt8.ofNat n.toNat))
 |_,_=>none
def XZ (h:H):Value->Option Value
 |.slice a n c=>(Ca h 1 n (.slice a n c)).bind fun l=>(Ws l .empty).map .string
 |_=>none
def Eh:Value->Option Nat
 |.slice _ n _=>some n
 |.string s=>some s.size
 |_=>none

def small (n bytes:Nat):Prop:=(n+1) * (bytes+1)<=2^40
instance (n bytes:Nat):Decidable (small n bytes):=by unfold small;infer_instance
def CS (Av n:Nat) (e:TypeId) (sz:Nat) (c:List Value) (h:H):R:=some (.slice (some ⟨Av,0,some 0⟩) n 0,h.put Av (.grow c e sz [c.length] 0))
def EZ (lo Av:Nat) (e:TypeId) (sz bytes:Nat) (a:Addr) (len cap c n:Nat) (nc:List Value) (h:H):R:=
 if len+n<=c then(h.Df lo (BB a (len*sz)) nc).map fun h'=>(.slice (some a) (len+n) cap,h')
 else if small (len+n) bytes/\small c bytes then(h.Az a (len*sz)).bind fun oc=>CS Av (len+n) e sz (oc++nc) h else none
def K1 (lo:Nat) (e:TypeId) (sz bytes:Nat) (a:Addr) (g len cap n:Nat) (nc:List Value) (h:H):A9->R
 | .grow c e' sz' lens valid=>
   if lo<=a.block/\valid<=g/\g+1=lens.length/\cap=0/\a.off=0/\len*sz=c.length/\e=e'/\sz=sz'/\small (len+n) bytes/\nc.all Value.oneCell'=true then
    some (.slice (some ⟨a.block,0,some (g+1)⟩) (len+n) 0,h.put a.block (.grow (c++nc) e sz ((c.length+nc.length)::lens) valid))
   else if lo<=a.block/\valid<=g/\g+1=lens.length/\cap%2=0/\a.off=cap / 2*sz/\a.off+len*sz=c.length/\e=e'/\sz=sz'/\small (len+n) bytes/\nc.all Value.oneCell'=true then
    some (.slice (some ⟨a.block,0,some (g+1)⟩) (len+n) 0,h.put a.block (.grow (c.drop a.off++nc) e sz ((len*sz+nc.length)::lens.map fun _=>0) (g+1)))
   else none
 |_=>none
def HQ (lo Av:Nat) (e:TypeId) (sz bytes:Nat) (a:Addr) (len cap n:Nat) (nc:List Value) (h:H):R:=
 match a.spot with
 |none=>EZ lo Av e sz bytes a len cap cap n nc h
 | some g=>
   if cap%2=1 then EZ lo Av e sz bytes a len cap (cap / 2) n nc h
   else(h.get a.block).bind fun row=>K1 lo e sz bytes a g len cap n nc h row
def Dc (lo Av:Nat) (e:TypeId) (sz bytes:Nat) (s x:Value) (h:H):R:=
 (Eh x).bind fun n=>
 if n=0 then(match s with|.slice _ _ _=>some (s,h)|_=>none)else
 (Ca h sz n x).bind fun nc=>
 match s with
 |.slice (some a) len cap=>if far<=cap then(if cap=far/\len=0/\small n bytes then CS Av n e sz nc h else none)else HQ lo Av e sz bytes a len cap n nc h
 |.slice none 0 0=>if small n bytes then CS Av n e sz nc h else none
 |_=>none

def LZ (lo sz:Nat) (d s:Value) (h:H):R:=
 match d with
 | .slice base len cap=>
   if far<=cap then none else
   (Eh s).bind fun k=>
   let n:=if k<=len then k else len
   (Ca h sz n s).bind fun nc=>
   match base with
   |some a=>(if n=0 then some h else h.Df lo a nc).map fun h'=>(.int .i64 n,h')
   |none=>some (.int .i64 n,h)
 |_=>none

def Tv (lo:Nat) (z:List Value) (v:Value) (h:H):R:=
 match v with
 |.slice (some a) n c=>if n=0 then some (.tuple #[],h)else if far<=c then none else(h.Df lo a (Gk z n)).map fun h'=>(.tuple #[],h')
 |.slice none 0 0=>some (.tuple #[],h)
 |_=>none


def bare (es:List MapEntry):List MapEntry:=es.map fun e=>⟨e.key,undef,e.born⟩
def IQ (es:List MapEntry):Bool:=es.all fun e=>flat e.key
def E4 (P:Program) (empty:Bool) (kt:TypeId) (k:Value) (es:List MapEntry):Option (Option Nat):=
 if flat k/\IQ es/\(Au P (Instr.checkKey empty 10000 kt k)).isSome then
  (Au P (Instr.findKey kt k (bare es))).map fun r=>r.map (·.1)
 else none

def JF (z:Value) (ok:Bool) (es:List MapEntry):Option Nat->Option Value
 |some i=>(es[i]?).map fun x=>if ok then .tuple #[x.val,.bool true]else x.val
 |none=>some (if ok then .tuple #[z,.bool false]else z)
def Cs (P:Program) (kt:TypeId) (z:Value) (ok:Bool) (k:Value) (h:H):Value->Option Value
 | .map (some r)=>match h.get r with
   |some (.map es _)=>(E4 P es.isEmpty kt k es).bind (JF z ok es)
   |_=>none
 |.map none=>(E4 P true kt k []).bind (JF z ok [])
 |_=>none

def Kz (r c:Nat) (es:List MapEntry) (k v:Value) (h:H):Option Nat->Option H
 |some i=>(es[i]?).bind fun x=>if Instr.sameBits 10000 x.key k then some (h.put r (.map (es.set i ⟨k,v,x.born⟩) c))else none
 |none=>some (h.put r (.map (es++[⟨k,v,c⟩]) (c+1)))
def Lb (P:Program) (lo:Nat) (kt:TypeId) (k v:Value) (h:H):Value->Option H
 | .map (some r)=>if lo<=r then(match h.get r with
   |some (.map es c)=>(E4 P false kt k es).bind (Kz r c es k v h)
   |_=>none)else none
 |_=>none
def Hu (P:Program) (lo:Nat) (kt:TypeId) (k:Value) (h:H):Value->Option H
 | .map (some r)=>if lo<=r then(match h.get r with
   |some (.map es c)=>(E4 P es.isEmpty kt k es).map fun o=>match o with|some i=>h.put r (.map (es.eraseIdx i) c)|none=>h
   |_=>none)else none
 |_=>none

def Ht (Av:Nat) (h:H):Value->R
 | .map (some r)=>match h.get r with
   |some (.map _ c)=>some (.pointer (some ⟨Av,0,none⟩),h.put Av (.iter r c [] c))
   |_=>none
 |_=>none
def Mx (Av:Nat) (h:H):Value->R
 |.string s=>some (.pointer (some ⟨Av,0,none⟩),h.put Av (.Ki s 0))
 |_=>none
def La (lo:Nat) (h:H):Value->R
 | .pointer (some ⟨r,0,none⟩)=>if lo<=r then(match h.get r with
   |some (.Ki s pos)=>if pos<s.size then some (.tuple ⟨[.bool true,.int .i64 (pos:Int),.int .i32 ((Utf8.decode s pos).1:Int)]⟩,h.put r (.Ki s (pos+(Utf8.decode s pos).2)))else some (.tuple ⟨[.bool false]⟩,h)
   |_=>none)else none
 |_=>none
def VL (s:Nat) (es:List MapEntry):Option Value:=(es.find? fun e=>e.born==s).map fun e=>.tuple #[e.key,e.val]
def VN (h:H):A9->Option Value
 | .iter m _ seen c0=>seen.getLast?.bind fun s=>match h.get m with
   |some (.map es c)=>if c=c0 then VL s es else none
   |_=>none
 |_=>none
def MW (h:H):Value->Option Value
 |.pointer (some ⟨r,0,none⟩)=>(h.get r).bind (VN h)
 |_=>none
mutual
def d8:Value->Value->Bool
 |.int k a,.int k' b=>decide (k=k'/\a=b)
 |.bool a,.bool b=>decide (a=b)
 |.string a,.string b=>decide (a=b)&&(a==b)
 |.agg ⟨a⟩,.agg ⟨b⟩=>nR a b
 |_,_=>false
def nR:List Value->List Value->Bool
 |[],[]=>true
 |a::l,b::m=>d8 a b&&nR l m
 |_,_=>false
end
def P6:Value->Bool
 |.string a=>a==a
 |_=>true
def Ll (P:Program) (kt:TypeId) (k:Value):Bool:=P6 k&&(match Au P (Op.equal kt k k)with|some true=>true|_=>false)
def JE (P:Program) (kt:TypeId) (r c:Nat) (z:Value) (es:List MapEntry) (k:Value) (h:H):Option Nat->R
 |some i=>(es[i]?).bind fun x=>if(d8 x.key k&&Instr.sameBits 10000 x.key k)=true then some (.tuple #[x.val,.int .i64 x.born],h.put r (.map es c))else none
 |none=>if Ll P kt k=true then some (.tuple #[z,.int .i64 c],h.put r (.map (es++[⟨k,z,c⟩]) (c+1)))else none
def Gp (P:Program) (lo:Nat) (kt:TypeId) (z k:Value) (h:H):Value->R
 | .map (some r)=>if lo<=r then(match h.get r with
   |some (.map es c)=>(E4 P false kt k es).bind (JE P kt r c z es k h)
   |_=>none)else none
 |_=>none
def Pz (r c:Nat) (es:List MapEntry) (v:Value) (h:H):Option Nat->Option H
 |some i=>(es[i]?).map fun x=>h.put r (.map (es.set i ⟨x.key,v,x.born⟩) c)
 |none=>none
def Lc (lo:Nat) (s v:Value) (h:H):Value->Option H
 | .map (some r)=>if lo<=r then(match h.get r,s with
   |some (.map es c),.int .i64 n=>Pz r c es v h (es.findIdx? fun e=>(e.born:Int)==n)
   |_,_=>none)else none
 |_=>none

def XV:Value->Option Value
 |.slice _ n _=>some (.int .i64 n)
 |_=>none
def PT:Value->Option Value
 |.string s=>some (.int .i64 s.size)
 |_=>none
def Kc (h:H):Value->Option Value
 | .map (some r)=>match h.get r with
   |some (.map es _)=>some (.int .i64 es.length)
   |_=>none
 |.map none=>some (.int .i64 0)
 |_=>none
def eR:Value->Option Value
 |.slice none _ c=>some (.int .i64 c)
 | .slice (some a) _ c=>if far<=c then none else match a.spot with
   |none=>some (.int .i64 c)
   |some _=>if c%2=1 then some (.int .i64 (c / 2:Nat))else none
 |_=>none

def keep (h:H):Option Value->R:=fun o=>o.map fun v=>(v,h)
def IY (ts:Ts) (o:Option AP):Option Value:=o.map (ev ts)

def BZ (P:Program) (lo Av:Nat) (ts:Ts) (h:H):Bn->R
 |.mv x=>some (ev ts x,h)
 |.pick c a b=>keep h (OM (ev ts a) (ev ts b) (ev ts c))
 |.alloc z e=>G2 Av e z h
 |.box x e=>G2 Av e (Aq (ev ts x)) h
 |.build z ps=>keep h ((E5 ts z ps).map fun l=>.agg ⟨l⟩)
 |.CI z ps len e=>(E5 ts z ps).map fun cs=>(.slice (some ⟨Av,0,none⟩) len len,h.put Av (.cells cs e))
 |.Ad a=>keep h (GK h (ev ts a))
 |.Bb n a=>keep h (GJ n h (ev ts a))
 |.store n a x=>Hs lo n (Aq (ev ts x)) h (ev ts a)
 |.AY x=>keep h (MR (ev ts x))
 |.int op x y=>keep h (XY op (ev ts x) (ev ts y))
 |.Ls q x y=>keep h (LY q (ev ts x) (ev ts y))
 |.not x=>keep h (Wa (ev ts x))
 |.neg x=>keep h (aS (ev ts x))
 |.conv k x=>keep h (U1 k (ev ts x))
 |.R9 m x y=>keep h (OO m (ev ts x) (ev ts y))
 |.pure o=>keep h (EJ P ts o)
 |.cmp sl ne x y o=>keep h (aT P sl ne ts x y o)
 |.Jw t x=>some (.iface t (ev ts x),h)
 |.NC fn fs cs=>some (.func fn ⟨fs.map (ev ts)⟩ ⟨cs.map (ev ts)⟩,h)
 |.II=>some (.map (some Av),h.put Av (.map [] 0))
 |.FJ z b e l c=>GR Av z b e h (Cv (ev ts l)) (Cv (ev ts c))
 |.Io n sz x l hi m=>keep h (Io n sz (IY ts l) (IY ts hi) (IY ts m) (ev ts x))
 |.Hw sz x l hi m=>keep h (Hw sz (IY ts l) (IY ts hi) (IY ts m) (ev ts x))
 |.Ab off x=>keep h (MV off (ev ts x))
 |.field1 off x=>keep h (Ke off (ev ts x))
 |.N2 off n x=>keep h (My off n (ev ts x))
 |.Hf n sz x i=>keep h (MU n sz (ev ts i) (ev ts x))
 |.D4 sz x i=>keep h (Rs sz (ev ts i) (ev ts x))
 |.gu n x i=>keep h (XX n (ev ts i) (ev ts x))
 |.Xg n sz x i=>keep h (XW n sz (ev ts i) (ev ts x))
 |.extract x i=>keep h (Ik i (ev ts x))
 |.Yi t z ok x=>keep h (XT t z ok (ev ts x))
 |.jk x=>keep h (XZ h (ev ts x))
 |.M6 t x=>keep h (I9 P t (ev ts x))
 |.lookup kt z ok m k=>keep h (Cs P kt z ok (ev ts k) h (ev ts m))
 |.Fs kt m k v=>(Lb P lo kt (ev ts k) (ev ts v) h (ev ts m)).map fun h'=>(undef,h')
 |.len x=>keep h (XV (ev ts x))
 |.Qz x=>keep h (PT (ev ts x))
 |.JR x=>keep h (Kc h (ev ts x))
 |.cap x=>keep h (eR (ev ts x))
 |.append e sz b s x=>Dc lo Av e sz b (ev ts s) (ev ts x) h
 |.copy sz d s=>LZ lo sz (ev ts d) (ev ts s) h
 |.aO z x=>Tv lo z (ev ts x) h
 |.dead=>none
 |.delete kt m k=>(Hu P lo kt (ev ts k) h (ev ts m)).map fun h'=>(.tuple #[],h')
 |.EN m=>Ht Av h (ev ts m)
 |.JO x=>Mx Av h (ev ts x)
 |.JB x=>La lo h (ev ts x)
 |.entry x=>keep h (MW h (ev ts x))
 |.Ez kt z m k=>Gp P lo kt z (ev ts k) h (ev ts m)
 |.GC m s v=>(Lc lo (ev ts s) (ev ts v) h (ev ts m)).map fun h'=>(undef,h')

def Bn.fresh:Bn->Bool
 |.alloc _ _|.box _ _|.CI _ _ _ _|.II|.FJ _ _ _ _ _|.append _ _ _ _ _|.EN _|.JO _=>true
 |_=>false
def Bn.light:Bn->Bool
 |.Ad _|.Bb _ _|.store _ _ _|.lookup _ _ _ _ _|.Fs _ _ _ _|.JR _|.jk _|.append _ _ _ _ _|.copy _ _ _|.aO _ _|.delete _ _ _|.EN _|.JO _|.JB _|.entry _|.Ez _ _ _ _|.GC _ _ _=>false
 |_=>true

def BF (ts:Ts):Option (Nat × Bool)->Bool
 |none=>true
 |some (j,want)=>match ts j with|.bool b=>b==want|_=>false
def EY (ts:Ts) (v:Value):Option Nat->Ts
 |some d=>GL ts d v
 |none=>ts

end AE

/- Which rows an operation looks at, and which one it turns. -/
namespace AE
open Go

def H.upd (h:H):Option (Nat × A9)->H
 |none=>h
 |some p=>h.put p.1 p.2

def Ap:Value->List Nat
 |.pointer (some a)=>[a.block]
 |.slice (some a) _ c=>if far<=c then[]else[a.block]
 |.map (some r)=>[r]
 |_=>[]

def F9:Value->Bool
 |.slice (some a) n c=>if far<=c then true else match a.spot with|none=>Nat.beq n c|some _=>Nat.beq c (2*n+1)
 |_=>false
theorem beq_false {a b:Nat}(h:a≠b):Nat.beq a b=false:=by
 cases e:Nat.beq a b
 ·rfl
 ·exact absurd (Nat.eq_of_beq_eq_true e) h
def Bn.wr (ts:Ts):Bn->List Nat
 |.store _ a _=>Ap (ev ts a)
 |.append _ _ _ s _=>if F9 (ev ts s)=true then[]else Ap (ev ts s)
 |.copy _ d _=>Ap (ev ts d)
 |.aO _ x=>Ap (ev ts x)
 |.Fs _ m _ _=>Ap (ev ts m)
 |.delete _ m _=>Ap (ev ts m)
 |.Ez _ _ m _=>Ap (ev ts m)
 |.GC m _ _=>Ap (ev ts m)
 |.JB x=>Ap (ev ts x)
 |_=>[]
def Bn.touch (ts:Ts):Bn->List Nat
 |.Ad a|.Bb _ a=>Ap (ev ts a)
 |.store _ a _=>Ap (ev ts a)
 |.lookup _ _ _ m _=>Ap (ev ts m)
 |.JR x=>Ap (ev ts x)
 |.jk x=>Ap (ev ts x)
 |.append _ _ _ s x=>Ap (ev ts s)++Ap (ev ts x)
 |.copy _ d s=>Ap (ev ts d)++Ap (ev ts s)
 |.aO _ x=>Ap (ev ts x)
 |.Fs _ m _ _=>Ap (ev ts m)
 |.delete _ m _=>Ap (ev ts m)
 |.Ez _ _ m _=>Ap (ev ts m)
 |.GC m _ _=>Ap (ev ts m)
 |.EN m=>Ap (ev ts m)
 |.JB x=>Ap (ev ts x)
 |_=>[]
def Bn.O8:Bn->Bool
 |.entry _=>false
 |_=>true

def Loc (lo Av:Nat) (wr touch:List Nat) (h:H) (f:H->R) (v:Value) (h':H):Prop:=
 ∃u,h'=h.upd u/\(∀r row,u=some (r,row)->(r=Av\/(lo<=r/\r∈wr/\h.get r≠none)))/\∀g:H,(∀r∈touch,h.get r≠none->g.get r=h.get r)->f g=some (v,g.upd u)

theorem Loc.keep {lo Av:Nat}{wr touch:List Nat}{h h':H}{o:H->Option Value}{v:Value}(hk:keep h (o h)=some (v,h')) (ho:o h=some v->∀g:H,(∀r∈touch,h.get r≠none->g.get r=h.get r)->o g=o h):Loc lo Av wr touch h (fun g=>keep g (o g)) v h':=by
 simp only[AE.keep,Option.map_eq_some_iff,Prod.mk.injEq]at hk
 obtain⟨v',hv,rfl,rfl⟩:=hk
 refine⟨none,rfl,by simp,fun g hg=>?_⟩
 simp[AE.keep,ho hv g hg,hv,H.upd]
theorem Loc.flat {lo Av:Nat}{wr touch:List Nat}{h h':H}{o:Option Value}{v:Value}(hk:AE.keep h o=some (v,h')):Loc lo Av wr touch h (fun g=>AE.keep g o) v h':=
 Loc.keep (o:=fun _=>o) hk fun _ _ _=>rfl
theorem Loc.new {lo Av:Nat}{wr touch:List Nat}{h h':H}{v v':Value}{row:A9}(hk:some (v',h.put Av row)=some (v,h')):Loc lo Av wr touch h (fun g=>some (v',g.put Av row)) v h':=by
 simp only[Option.some.injEq,Prod.mk.injEq]at hk
 obtain⟨rfl,rfl⟩:=hk
 exact⟨some (Av,row),rfl,fun r row' e=>.inl (by simp at e;exact e.1.symm),fun g _=>rfl⟩

theorem Gw {h g:H}{a:Addr}{n:Nat}{l:List Value}(hl:h.Az a n=some l) (e:h.get a.block≠none->g.get a.block=h.get a.block):g.Az a n=some l:=by
 have:h.get a.block≠none:=fun e'=>by simp[H.Az,e']at hl
 rw[<-hl];simp[H.Az,e this]
theorem FH {h h':H}{lo:Nat}{a:Addr}{vs:List Value}(hs:h.Df lo a vs=some h'):∃row,lo<=a.block/\h'=h.put a.block row/\h.get a.block≠none/\∀g:H,(h.get a.block≠none->g.get a.block=h.get a.block)->g.Df lo a vs=some (g.put a.block row):=by
 unfold H.Df at hs
 split at hs
 ·rename_i hc
  simp only[Option.bind_eq_some_iff,Option.map_eq_some_iff]at hs
  obtain⟨row,hr,row',hr',rfl⟩:=hs
  refine⟨row',hc.1,rfl,by simp[hr],fun g hg=>?_⟩
  unfold H.Df
  rw[if_pos hc,hg (by simp[hr]),hr]
  simp[hr']
 ·simp at hs

theorem HR {h g:H}{sz n:Nat}{v:Value}{l:List Value}(hl:Ca h sz n v=some l) (e:∀r∈Ap v,h.get r≠none->g.get r=h.get r):Ca g sz n v=some l:=by
 unfold Ca at hl
 split at hl
 ·split at hl
  ·rename_i hf
   simp only[Ca]
   rw[if_pos hf]
   exact hl
  ·rename_i hf
   simp only[Ca]
   rw[if_neg hf]
   exact Gw hl (e _ (by simp[Ap,hf]))
 all_goals
  simp only[Ca]
  exact hl

theorem JI {lo Av:Nat}{e:TypeId}{sz bytes:Nat}{a:Addr}{len cap c n:Nat}{nc:List Value}{h h':H}{v:Value}{wr touch:List Nat}(hw:len+n<=c->a.block∈wr) (ht:a.block∈touch)
 (ha:EZ lo Av e sz bytes a len cap c n nc h=some (v,h')):Loc lo Av wr touch h (fun g=>EZ lo Av e sz bytes a len cap c n nc g) v h':=by
 unfold EZ at ha
 split at ha
 ·rename_i hf
  simp only[Option.map_eq_some_iff,Prod.mk.injEq]at ha
  obtain⟨h1,hs,rfl,rfl⟩:=ha
  obtain⟨row,hlo,rfl,hne,hg⟩:=FH hs
  refine⟨some (a.block,row),rfl,fun r row' er=>.inr (by simp at er;rw[<-er.1];exact⟨hlo,hw hf,hne⟩),fun g hgg=>?_⟩
  simp only[EZ,if_pos hf]
  rw[hg g (hgg _ ht)];rfl
 ·rename_i hf
  split at ha
  ·rename_i hs
   simp only[Option.bind_eq_some_iff]at ha
   obtain⟨oc,ho,ha⟩:=ha
   simp only[CS,Option.some.injEq,Prod.mk.injEq]at ha
   obtain⟨rfl,rfl⟩:=ha
   refine⟨some (Av,_),rfl,fun r row' er=>.inl (by simp at er;exact er.1.symm),fun g hgg=>?_⟩
   simp only[EZ]
   rw[if_neg hf,if_pos hs,Gw ho (hgg _ ht)];rfl
  ·simp at ha

theorem PR {P:Program}{lo Av:Nat}{ts:Ts}{h h':H}{v:Value}{ao:Bn}(hne:ao.O8=true) (ha:BZ P lo Av ts h ao=some (v,h')):
 Loc lo Av (ao.wr ts) (ao.touch ts) h (fun g=>BZ P lo Av ts g ao) v h':=by
 cases ao
 case entry x=>simp[Bn.O8]at hne
 case EN m=>
  simp only[BZ,Bn.wr,Bn.touch]at ha⊢
  unfold Ht at ha
  split at ha
  ·rename_i r he
   split at ha
   ·rename_i es c hg
    simp only[Option.some.injEq,Prod.mk.injEq]at ha
    obtain⟨rfl,rfl⟩:=ha
    refine⟨some (Av,_),rfl,fun r' row' er=>.inl (by simp at er;exact er.1.symm),fun g hgg=>?_⟩
    rw[he]at hgg⊢
    simp only[Ht,hgg r (by simp[Ap]) (by simp[hg]),hg,H.upd]
   ·simp at ha
  ·simp at ha
 case JO x=>
  simp only[BZ,Bn.wr,Bn.touch]at ha⊢
  unfold Mx at ha
  split at ha
  ·rename_i s he
   simp only[Option.some.injEq,Prod.mk.injEq]at ha
   obtain⟨rfl,rfl⟩:=ha
   refine⟨some (Av,_),rfl,fun r' row' er=>.inl (by simp at er;exact er.1.symm),fun g hgg=>?_⟩
   rw[he]
   rfl
  ·simp at ha
 case JB x=>
  simp only[BZ,Bn.wr,Bn.touch]at ha⊢
  unfold La at ha
  split at ha
  ·rename_i r he
   split at ha
   ·rename_i hlo
    split at ha
    ·rename_i s pos hg
     split at ha
     ·rename_i hp
      simp only[Option.some.injEq,Prod.mk.injEq]at ha
      obtain⟨rfl,rfl⟩:=ha
      refine⟨some (r,_),rfl,fun r' row' er=>.inr ?_,fun g hgg=>?_⟩
      ·simp at er;rw[<-er.1,he];exact⟨hlo,by simp[Ap],by simp[hg]⟩
      ·rw[he]at hgg⊢
       simp only[La,if_pos hlo,hgg r (by simp[Ap]) (by simp[hg]),hg,if_pos hp,H.upd]
     ·rename_i hp
      simp only[Option.some.injEq,Prod.mk.injEq]at ha
      obtain⟨rfl,rfl⟩:=ha
      refine⟨none,rfl,fun r' row' er=>by simp at er,fun g hgg=>?_⟩
      rw[he]at hgg⊢
      simp only[La,if_pos hlo,hgg r (by simp[Ap]) (by simp[hg]),hg,if_neg hp,H.upd]
    ·simp at ha
   ·simp at ha
  ·simp at ha
 case Ez kt z m k=>
  simp only[BZ,Bn.wr,Bn.touch]at ha⊢
  unfold Gp at ha
  split at ha
  ·rename_i r he
   split at ha
   ·rename_i hlo
    split at ha
    ·rename_i es c hg
     simp only[Option.bind_eq_some_iff]at ha
     obtain⟨q,hq,ha⟩:=ha
     have:∃row,h'=h.put r row/\∀g:H,JE P kt r c z es (ev ts k) g q=some (v,g.put r row):=by
      unfold JE at ha
      split at ha
      ·simp only[Option.bind_eq_some_iff]at ha
       obtain⟨x,hx,ha⟩:=ha
       split at ha
       ·rename_i hb;simp only[Option.some.injEq,Prod.mk.injEq]at ha;exact⟨_,ha.2.symm,fun g=>by simp only[JE,hx,Option.bind_some,if_pos hb,ha.1]⟩
       ·simp at ha
      ·split at ha
       ·rename_i hb;simp only[Option.some.injEq,Prod.mk.injEq]at ha;exact⟨_,ha.2.symm,fun g=>by simp only[JE,if_pos hb,ha.1]⟩
       ·simp at ha
     obtain⟨row,rfl,hm⟩:=this
     refine⟨some (r,row),rfl,fun r' row' er=>.inr ?_,fun g hgg=>?_⟩
     ·simp at er;rw[<-er.1,he];exact⟨hlo,by simp[Ap],by simp[hg]⟩
     ·rw[he]at hgg⊢
      simp only[Gp,if_pos hlo,hgg r (by simp[Ap]) (by simp[hg]),hg,hq,Option.bind_some,hm,H.upd]
    ·simp at ha
   ·simp at ha
  ·simp at ha
 case GC m s v'=>
  simp only[BZ,Bn.wr,Bn.touch,Option.map_eq_some_iff,Prod.mk.injEq]at ha⊢
  obtain⟨h1,ha,rfl,rfl⟩:=ha
  unfold Lc at ha
  split at ha
  ·rename_i r he
   split at ha
   ·rename_i hlo
    split at ha
    ·rename_i es c n hg hs
     have:∃row,h1=h.put r row/\∀g:H,Pz r c es (ev ts v') g (es.findIdx? fun e=>(e.born:Int)==n)=some (g.put r row):=by
      unfold Pz at ha
      split at ha
      ·simp only[Option.map_eq_some_iff]at ha
       obtain⟨x,hx,ha⟩:=ha
       exact⟨_,ha.symm,fun g=>by simp[Pz, *]⟩
      ·simp at ha
     obtain⟨row,rfl,hm⟩:=this
     refine⟨some (r,row),rfl,fun r' row' er=>.inr ?_,fun g hgg=>?_⟩
     ·simp at er;rw[<-er.1,he];exact⟨hlo,by simp[Ap],by simp[hg]⟩
     ·rw[he]at hgg⊢
      simp only[Lc,if_pos hlo,hgg r (by simp[Ap]) (by simp[hg]),hg,hs,hm,Option.map_some,H.upd]
    ·simp at ha
   ·simp at ha
  ·simp at ha
 case mv x=>exact Loc.flat (o:=some (ev ts x)) ha
 case Jw t x=>exact Loc.flat (o:=some (.iface t (ev ts x))) ha
 case NC fn fs cs=>exact Loc.flat (o:=some (.func fn ⟨fs.map (ev ts)⟩ ⟨cs.map (ev ts)⟩)) ha
 case alloc z e=>exact Loc.new ha
 case box x e=>exact Loc.new ha
 case II=>exact Loc.new ha
 case CI z ps len e=>
  simp only[BZ]at ha⊢
  cases hf:E5 ts z ps with
  |none=>rw[hf]at ha;simp at ha
  |some cs=>rw[hf]at ha;exact Loc.new ha
 case FJ z b e l c=>
  simp only[BZ]at ha⊢
  unfold GR at ha
  split at ha
  ·rename_i l' c' hl hc
   split at ha
   ·rename_i hb
    simp only[hl,hc,GR,if_pos hb]
    exact Loc.new ha
   ·simp at ha
  ·simp at ha
 case Ad a=>
  refine Loc.keep (o:=fun g=>GK g (ev ts a)) ha fun hv g hg=>?_
  simp only[Bn.touch]at hg
  unfold GK at hv⊢
  split
  ·rename_i a' he
   rw[he]at hg hv
   simp only[hv]
   simp only[Option.bind_eq_some_iff]at hv
   obtain⟨l,hl,hv⟩:=hv
   rw[Gw hl (hg _ (by simp[Ap])),Option.bind_some,hv]
  ·rfl
 case Bb n a=>
  refine Loc.keep (o:=fun g=>GJ n g (ev ts a)) ha fun hv g hg=>?_
  simp only[Bn.touch]at hg
  unfold GJ at hv⊢
  split
  ·rename_i a' he
   rw[he]at hg hv
   simp only[hv]
   simp only[Option.map_eq_some_iff]at hv
   obtain⟨l,hl,hv⟩:=hv
   rw[Gw hl (hg _ (by simp[Ap])),Option.map_some,hv]
  ·rfl
 case store n a x=>
  simp only[BZ,Bn.wr,Bn.touch]at ha⊢
  unfold Hs at ha
  split at ha
  ·rename_i a' he
   split at ha
   ·rename_i hl
    simp only[Option.map_eq_some_iff,Prod.mk.injEq]at ha
    obtain⟨h1,hs,rfl,rfl⟩:=ha
    obtain⟨row,hlo,rfl,hne,hg⟩:=FH hs
    refine⟨some (a'.block,row),rfl,fun r row' er=>.inr ?_,fun g hgg=>?_⟩
    ·simp at er;rw[<-er.1,he];exact⟨hlo,by simp[Ap],by first|exact hne|simp[hg]⟩
    ·rw[he]at hgg⊢
     simp only[Hs,if_pos hl]
     rw[hg g (hgg _ (by simp[Ap]))];rfl
   ·simp at ha
  ·simp at ha
 case lookup kt z ok m k=>
  refine Loc.keep (o:=fun g=>Cs P kt z ok (ev ts k) g (ev ts m)) ha fun hv g hg=>?_
  simp only[Bn.touch]at hg
  unfold Cs at hv⊢
  split
  ·rename_i r he
   rw[he]at hg hv
   have:h.get r≠none:=fun e=>by simp[e]at hv
   rw[hg _ (by simp[Ap]) this]
  all_goals rfl
 case jk x=>
  refine Loc.keep (o:=fun g=>XZ g (ev ts x)) ha fun hv g hg=>?_
  simp only[Bn.touch]at hg
  unfold XZ at hv⊢
  split
  ·rename_i a n c he
   rw[he]at hg hv
   simp only[hv]
   simp only[Option.bind_eq_some_iff]at hv
   obtain⟨l,hl,hv⟩:=hv
   rw[HR hl hg]
   exact hv
  ·rfl
 case JR x=>
  refine Loc.keep (o:=fun g=>Kc g (ev ts x)) ha fun hv g hg=>?_
  simp only[Bn.touch]at hg
  unfold Kc at hv⊢
  split
  ·rename_i r he
   rw[he]at hg hv
   have:h.get r≠none:=fun e=>by simp[e]at hv
   rw[hg _ (by simp[Ap]) this]
  all_goals rfl
 case Fs kt m k v'=>
  simp only[BZ,Bn.wr,Bn.touch,Option.map_eq_some_iff,Prod.mk.injEq]at ha⊢
  obtain⟨h1,ha,rfl,rfl⟩:=ha
  unfold Lb at ha
  split at ha
  ·rename_i r he
   split at ha
   ·rename_i hlo
    split at ha
    ·rename_i es c hg
     simp only[Option.bind_eq_some_iff]at ha
     obtain⟨q,hq,ha⟩:=ha
     have:∃row,h1=h.put r row/\∀g:H,Kz r c es (ev ts k) (ev ts v') g q=some (g.put r row):=by
      unfold Kz at ha
      split at ha
      ·simp only[Option.bind_eq_some_iff]at ha
       obtain⟨x,hx,ha⟩:=ha
       split at ha
       ·rename_i hb;simp at ha;exact⟨_,ha.symm,fun g=>by simp[Kz,hx,hb]⟩
       ·simp at ha
      ·simp at ha;exact⟨_,ha.symm,fun g=>by simp[Kz]⟩
     obtain⟨row,rfl,hm⟩:=this
     refine⟨some (r,row),rfl,fun r' row' er=>.inr ?_,fun g hgg=>?_⟩
     ·simp at er;rw[<-er.1,he];exact⟨hlo,by simp[Ap],by first|exact hne|simp[hg]⟩
     ·rw[he]at hgg⊢
      simp only[Lb,if_pos hlo,hgg r (by simp[Ap]) (by simp[hg]),hg,hq,Option.bind_some,hm,Option.map_some,H.upd]
    ·simp at ha
   ·simp at ha
  ·simp at ha
 case delete kt m k=>
  simp only[BZ,Bn.wr,Bn.touch,Option.map_eq_some_iff,Prod.mk.injEq]at ha⊢
  obtain⟨h1,ha,rfl,rfl⟩:=ha
  unfold Hu at ha
  split at ha
  ·rename_i r he
   split at ha
   ·rename_i hlo
    split at ha
    ·rename_i es c hg
     simp only[Option.map_eq_some_iff]at ha
     obtain⟨q,hq,ha⟩:=ha
     cases q with
     | none=>
       simp only at ha;subst ha
       refine⟨none,rfl,by simp,fun g hgg=>?_⟩
       rw[he]at hgg⊢
       simp only[Hu,if_pos hlo,hgg r (by simp[Ap]) (by simp[hg]),hg,hq,Option.map_some,H.upd]
     | some i=>
       simp only at ha;subst ha
       refine⟨some (r,_),rfl,fun r' row' er=>.inr ?_,fun g hgg=>?_⟩
       ·simp at er;rw[<-er.1,he];exact⟨hlo,by simp[Ap],by first|exact hne|simp[hg]⟩
       ·rw[he]at hgg⊢
        simp only[Hu,if_pos hlo,hgg r (by simp[Ap]) (by simp[hg]),hg,hq,Option.map_some,H.upd]
    ·simp at ha
   ·simp at ha
  ·simp at ha
 case append e sz b s x=>
  simp only[BZ,Bn.wr,Bn.touch]at ha⊢
  unfold Dc at ha
  simp only[Option.bind_eq_some_iff]at ha
  obtain⟨n,hn,ha⟩:=ha
  split at ha
  ·rename_i hn0
   split at ha
   ·rename_i b0 l0 c0 he
    simp only[Option.some.injEq,Prod.mk.injEq]at ha
    obtain⟨rfl,rfl⟩:=ha
    refine⟨none,rfl,by simp,fun g hgg=>?_⟩
    simp only[Dc,hn,Option.bind_some,if_pos hn0,he]
    rfl
   ·simp at ha
  ·rename_i hn0
   simp only[Option.bind_eq_some_iff]at ha
   obtain⟨nc,hnc,ha⟩:=ha
   have Uo:∀g:H,(∀r∈Ap (ev ts s)++Ap (ev ts x),h.get r≠none->g.get r=h.get r)->Ca g sz n (ev ts x)=some nc:=fun g hg=>
    HR hnc (fun r hr=>hg r (by simp[hr]))
   split at ha
   ·rename_i a len cap he
    split at ha
    ·rename_i hcf
     split at ha
     ·rename_i hcc
      simp only[CS,Option.some.injEq,Prod.mk.injEq]at ha
      obtain⟨rfl,rfl⟩:=ha
      refine⟨some (Av,_),rfl,fun r row' er=>.inl (by simp at er;exact er.1.symm),fun g hgg=>?_⟩
      simp only[Dc,hn,Option.bind_some,if_neg hn0,Uo g hgg,he,if_pos hcf,if_pos hcc,CS,H.upd]
     ·simp at ha
    rename_i hcf
    have main:Loc lo Av (if F9 (ev ts s)=true then[]else Ap (ev ts s)) (Ap (ev ts s)++Ap (ev ts x)) h (fun g=>HQ lo Av e sz b a len cap n nc g) v h':=by
     have hm0:a.block∈Ap (ev ts s):=by rw[he];simp[Ap,hcf]
     have hm1:F9 (ev ts s)=false->a.block∈(if F9 (ev ts s)=true then[]else Ap (ev ts s)):=fun hf=>by rw[hf,if_neg (by simp)];exact hm0
     have hm2:a.block∈Ap (ev ts s)++Ap (ev ts x):=by simp[hm0]
     unfold HQ at ha⊢
     split at ha
     ·rename_i hsp
      exact JI (fun hle=>hm1 (by rw[he];simp only[F9,if_neg hcf,hsp];exact beq_false (by omega))) hm2 ha
     ·split at ha
      ·rename_i g0 hsp hodd
       simp only[if_pos hodd]
       exact JI (fun hle=>hm1 (by rw[he];simp only[F9,if_neg hcf,hsp];exact beq_false (by omega))) hm2 ha
      ·rename_i g0 hsp hodd
       simp only[Option.bind_eq_some_iff]at ha
       obtain⟨row,hr,ha⟩:=ha
       unfold K1 at ha
       split at ha
       ·rename_i c e' sz' lens valid
        split at ha
        ·rename_i hb
         simp only[Option.some.injEq,Prod.mk.injEq]at ha
         obtain⟨rfl,rfl⟩:=ha
         refine⟨some (a.block,_),rfl,fun r' row' er=>.inr ?_,fun g hgg=>?_⟩
         ·simp at er;rw[<-er.1];exact⟨hb.1,hm1 (by rw[he];simp only[F9,if_neg hcf,hsp];exact beq_false (by have:=hb.2.2.2.1;omega)),by simp[hr]⟩
         ·simp only[if_neg hodd,hgg _ hm2 (by simp[hr]),hr,Option.bind_some,K1,if_pos hb,H.upd]
        ·rename_i hnb
         split at ha
         ·rename_i hb
          simp only[Option.some.injEq,Prod.mk.injEq]at ha
          obtain⟨rfl,rfl⟩:=ha
          refine⟨some (a.block,_),rfl,fun r' row' er=>.inr ?_,fun g hgg=>?_⟩
          ·simp at er;rw[<-er.1];exact⟨hb.1,hm1 (by rw[he];simp only[F9,if_neg hcf,hsp];exact beq_false (by have:=hb.2.2.2.1;omega)),by simp[hr]⟩
          ·simp only[if_neg hodd,hgg _ hm2 (by simp[hr]),hr,Option.bind_some,K1,if_neg hnb,if_pos hb,H.upd]
         ·simp at ha
       ·simp at ha
    obtain⟨u,h1,h2,h3⟩:=main
    refine⟨u,h1,h2,fun g hg=>?_⟩
    simp only[Dc,hn,Option.bind_some,if_neg hn0,Uo g hg,he,if_neg hcf]
    exact h3 g hg
   ·rename_i he
    split at ha
    ·rename_i hsm
     simp only[CS,Option.some.injEq,Prod.mk.injEq]at ha
     obtain⟨rfl,rfl⟩:=ha
     refine⟨some (Av,_),rfl,fun r row' er=>.inl (by simp at er;exact er.1.symm),fun g hgg=>?_⟩
     simp only[Dc,hn,Option.bind_some,if_neg hn0,Uo g hgg,he,if_pos hsm,CS,H.upd]
    ·simp at ha
   ·simp at ha
 case copy sz d s=>
  simp only[BZ,Bn.wr,Bn.touch]at ha⊢
  unfold LZ at ha
  split at ha
  ·rename_i base len cap he
   split at ha
   ·simp at ha
   rename_i hcf
   simp only[Option.bind_eq_some_iff]at ha
   obtain⟨k,hk,ha⟩:=ha
   obtain⟨nc,hnc,ha⟩:=ha
   have Uo:∀g:H,(∀r∈Ap (ev ts d)++Ap (ev ts s),h.get r≠none->g.get r=h.get r)->Ca g sz (if k<=len then k else len) (ev ts s)=some nc:=fun g hg=>
    HR hnc (fun r hr=>hg r (by simp[hr]))
   cases base with
   | none=>
     simp only[Option.some.injEq,Prod.mk.injEq]at ha
     obtain⟨rfl,rfl⟩:=ha
     refine⟨none,rfl,by simp,fun g hgg=>?_⟩
     simp only[LZ,he,if_neg hcf,hk,Option.bind_some,Uo g hgg,H.upd]
   | some a=>
     simp only[Option.map_eq_some_iff,Prod.mk.injEq]at ha
     obtain⟨h1,hs,rfl,rfl⟩:=ha
     by_cases h0:(if k<=len then k else len)=0
     ·rw[if_pos h0]at hs
      simp at hs;subst hs
      refine⟨none,rfl,by simp,fun g hgg=>?_⟩
      simp only[LZ,he,if_neg hcf,hk,Option.bind_some,Uo g hgg,if_pos h0,Option.map_some,H.upd]
     ·rw[if_neg h0]at hs
      obtain⟨row,hlo,rfl,hne,hg⟩:=FH hs
      refine⟨some (a.block,row),rfl,fun r' row' er=>.inr ?_,fun g hgg=>?_⟩
      ·simp at er;rw[<-er.1,he];exact⟨hlo,by simp[Ap,hcf],by first|exact hne|simp[hg]⟩
      ·simp only[LZ,he,if_neg hcf,hk,Option.bind_some,Uo g hgg,if_neg h0]
       rw[hg g (hgg _ (by rw[he];simp[Ap,hcf]))];rfl
  ·simp at ha
 case aO z x=>
  simp only[BZ,Bn.wr,Bn.touch]at ha⊢
  unfold Tv at ha
  split at ha
  ·rename_i a n cap he
   split at ha
   ·rename_i h0
    simp only[Option.some.injEq,Prod.mk.injEq]at ha
    obtain⟨rfl,rfl⟩:=ha
    refine⟨none,rfl,by simp,fun g hgg=>?_⟩
    simp only[Tv,he,if_pos h0,H.upd]
   ·rename_i h0
    split at ha
    ·simp at ha
    ·rename_i hcf
     simp only[Option.map_eq_some_iff,Prod.mk.injEq]at ha
     obtain⟨h1,hs,rfl,rfl⟩:=ha
     obtain⟨row,hlo,rfl,hne,hg⟩:=FH hs
     refine⟨some (a.block,row),rfl,fun r' row' er=>.inr ?_,fun g hgg=>?_⟩
     ·simp at er;rw[<-er.1,he];exact⟨hlo,by simp[Ap,hcf],hne⟩
     ·simp only[Tv,he,if_neg hcf,if_neg h0]
      rw[hg g (hgg _ (by rw[he];simp[Ap,hcf]))];rfl
  ·rename_i he
   simp only[Option.some.injEq,Prod.mk.injEq]at ha
   obtain⟨rfl,rfl⟩:=ha
   refine⟨none,rfl,by simp,fun g hgg=>?_⟩
   simp only[Tv,he,H.upd]
  ·simp at ha
 case dead=>simp[BZ]at ha
 all_goals exact Loc.flat ha

end AE

/- Which temporaries an operation reads. -/
namespace AE
open Go

def AP.rd:AP->List Nat
 |.t n=>[n]
 |.c _=>[]
 |.m n _=>[n]
def fD:List AP->List Nat
 |[]=>[]
 |x::xs=>x.rd++fD xs
def fC:Option AP->List Nat
 |none=>[]
 |some x=>x.rd
def j0:List (Nat × Nat × AP)->List Nat
 |[]=>[]
 |p::ps=>p.2.2.rd++j0 ps
def jZ (xs:List Operand):List Nat:=xs.filterMap fun x=>match x with|.tmp t=>some t|_=>none

def Bn.rd:Bn->List Nat
 |.mv x=>x.rd
 |.pick c a b=>c.rd++a.rd++b.rd
 |.alloc _ _=>[]
 |.box x _=>x.rd
 |.build _ ps=>j0 ps
 |.CI _ ps _ _=>j0 ps
 |.Ad a=>a.rd
 |.Bb _ a=>a.rd
 |.store _ a x=>a.rd++x.rd
 |.AY x=>x.rd
 |.int _ x y=>x.rd++y.rd
 |.Ls _ x y=>x.rd++y.rd
 |.not x=>x.rd
 |.neg x=>x.rd
 |.conv _ x=>x.rd
 |.R9 _ x y=>x.rd++y.rd
 |.pure o=>jZ o.op.operands.toList
 |.cmp _ _ x y o=>x.rd++y.rd++jZ o.op.operands.toList
 |.Jw _ x=>x.rd
 |.NC _ fs cs=>fD fs++fD cs
 |.II=>[]
 |.FJ _ _ _ l c=>l.rd++c.rd
 |.Io _ _ x l hi m=>x.rd++fC l++fC hi++fC m
 |.Hw _ x l hi m=>x.rd++fC l++fC hi++fC m
 |.Ab _ x=>x.rd
 |.field1 _ x=>x.rd
 |.N2 _ _ x=>x.rd
 |.Hf _ _ x i=>x.rd++i.rd
 |.D4 _ x i=>x.rd++i.rd
 |.gu _ x i=>x.rd++i.rd
 |.Xg _ _ x i=>x.rd++i.rd
 |.extract x _=>x.rd
 |.Yi _ _ _ x=>x.rd
 |.M6 _ x=>x.rd
 |.lookup _ _ _ m k=>m.rd++k.rd
 |.Fs _ m k v=>m.rd++k.rd++v.rd
 |.len x=>x.rd
 |.Qz x=>x.rd
 |.JR x=>x.rd
 |.jk x=>x.rd
 |.cap x=>x.rd
 |.append _ _ _ s x=>s.rd++x.rd
 |.copy _ d s=>d.rd++s.rd
 |.aO _ x=>x.rd
 |.dead=>[]
 |.delete _ m k=>m.rd++k.rd
 |.EN m=>m.rd
 |.JO x=>x.rd
 |.JB x=>x.rd
 |.entry x=>x.rd
 |.Ez _ _ m k=>m.rd++k.rd
 |.GC m s v=>m.rd++s.rd++v.rd

def Ec (o:Oper):Bool:=match o.op with|.select _ _=>false|_=>true
def Bn.Ec:Bn->Bool
 |.pure o=>AE.Ec o
 |.cmp _ _ _ _ o=>AE.Ec o
 |.entry _=>false
 |_=>true
theorem Bn.YM {ao:Bn}(h:ao.Ec=true):ao.O8=true:=by cases ao<;>first|rfl|(simp[Bn.Ec]at h)

variable {ts ts':Ts}
theorem Ed {x:AP}(e:∀t∈x.rd,ts' t=ts t):ev ts' x=ev ts x:=by
 cases x with
 |t n=>exact e n (by simp[AP.rd])
 |c v=>rfl
 |m n nm=>simp only[ev];rw[e n (by simp[AP.rd])]
theorem LG {x:Option AP}(e:∀t∈fC x,ts' t=ts t):IY ts' x=IY ts x:=by
 cases x with
 |none=>rfl
 |some x=>simp[IY,Ed (x:=x) e]
theorem QU:∀{xs:List AP},(∀t∈fD xs,ts' t=ts t)->xs.map (ev ts')=xs.map (ev ts)
 |[],_=>rfl
 | x::xs,e=>by
   simp only[fD,List.mem_append]at e
   rw[List.map_cons,List.map_cons,Ed (fun t h=>e t (.inl h)),QU (fun t h=>e t (.inr h))]
theorem Oo:∀{ps:List (Nat × Nat × AP)}(z:List Value),(∀t∈j0 ps,ts' t=ts t)->E5 ts' z ps=E5 ts z ps
 |[],z,_=>rfl
 | (off,size,x)::ps,z,e=>by
   simp only[j0,List.mem_append]at e
   simp only[E5,Ed (x:=x) (fun t h=>e t (.inl h))]
   split
   ·exact Oo _ (fun t h=>e t (.inr h))
   ·rfl
theorem iX {xs:List Operand}(e:∀t∈jZ xs,ts' t=ts t):∀x∈xs,Ii ts' x=Ii ts x:=by
 intro x hx
 cases x with
 |tmp t=>exact e t (by simp only[jZ,List.mem_filterMap];exact⟨_,hx,rfl⟩)
 |_=>rfl
theorem Rq {P:Program}{o:Oper}(hs:Ec o=true) (e:∀t∈jZ o.op.operands.toList,ts' t=ts t):EJ P ts' o=EJ P ts o:=by
 have h1:=iX e
 have h2:execOp (Ii ts') o=execOp (Ii ts) o:=by
  refine execOp_congr o (fun cs b h=>?_) (fun x hx=>h1 x (by simpa using hx))
  simp[Ec,h]at hs
 have h3:(o.op.operands.toList.all fun x=>flat (Ii ts' x))=o.op.operands.toList.all fun x=>flat (Ii ts x):=by
  rw[Bool.eq_iff_iff]
  simp only[List.all_eq_true]
  constructor<;>intro k x hx
  ·rw[<-h1 x hx];exact k x hx
  ·rw[h1 x hx];exact k x hx
 simp only[EJ,h2,h3]

theorem jm {P:Program}{lo Av:Nat}{h:H}{ao:Bn}(hs:ao.Ec=true) (e:∀t∈ao.rd,ts' t=ts t):BZ P lo Av ts' h ao=BZ P lo Av ts h ao:=by
 cases ao<;>simp only[Bn.rd,List.mem_append]at e
 case build z ps=>simp only[BZ,Oo z e]
 case CI z ps l t=>simp only[BZ,Oo z e]
 case pure o=>simp only[BZ,Rq (P:=P) hs e]
 case cmp sl ne x y o=>
  simp only[BZ,aT,Ed (x:=x) (fun t h=>e t (.inl (.inl h))),Ed (x:=y) (fun t h=>e t (.inl (.inr h))),Rq (P:=P) hs (fun t h=>e t (.inr h))]
 case NC fn fs cs=>simp only[BZ,QU (xs:=fs) (fun t h=>e t (.inl h)),QU (xs:=cs) (fun t h=>e t (.inr h))]
 case Io n sz x l hi m=>
  simp only[BZ,Ed (x:=x) (fun t h=>e t (.inl (.inl (.inl h)))),LG (x:=l) (fun t h=>e t (.inl (.inl (.inr h)))),LG (x:=hi) (fun t h=>e t (.inl (.inr h))),LG (x:=m) (fun t h=>e t (.inr h))]
 case Hw sz x l hi m=>
  simp only[BZ,Ed (x:=x) (fun t h=>e t (.inl (.inl (.inl h)))),LG (x:=l) (fun t h=>e t (.inl (.inl (.inr h)))),LG (x:=hi) (fun t h=>e t (.inl (.inr h))),LG (x:=m) (fun t h=>e t (.inr h))]
 case pick c a b=>simp only[BZ,Ed (x:=c) (fun t h=>e t (.inl (.inl h))),Ed (x:=a) (fun t h=>e t (.inl (.inr h))),Ed (x:=b) (fun t h=>e t (.inr h))]
 case Fs k m c b=>simp only[BZ,Ed (x:=m) (fun t h=>e t (.inl (.inl h))),Ed (x:=c) (fun t h=>e t (.inl (.inr h))),Ed (x:=b) (fun t h=>e t (.inr h))]
 case GC m s b=>simp only[BZ,Ed (x:=m) (fun t h=>e t (.inl (.inl h))),Ed (x:=s) (fun t h=>e t (.inl (.inr h))),Ed (x:=b) (fun t h=>e t (.inr h))]
 case alloc=>rfl
 case II=>rfl
 case dead=>rfl
 all_goals first
  |(rename_i x;simp only[BZ,Ed (x:=x) e];done)
  |(rename_i x _;simp only[BZ,Ed (x:=x) e];done)
  |(rename_i x y;simp only[BZ,Ed (x:=x) (fun t h=>e t (.inl h)),Ed (x:=y) (fun t h=>e t (.inr h))];done)

end AE

/- From the loaded operations to the evaluator's: which one stands for which. -/
namespace AE
open Go

def BU (P:Program) (t:TypeId):Option Bool:=
 match P.underlying t with
 |some (.struct _)=>some true
 |some (.array _ _)=>some true
 |some _=>some false
 |none=>none
def sizeT (P:Program) (t:TypeId):Option Nat:=(P.info? t).map (·.size)
def dL (P:Program) (t:TypeId):Option Value:=(P.info? t).bind (·.zero)
def DT (P:Program) (t:TypeId):Option Value:=(dL P t).bind fun z=>if flat z then some z else none

def AJ:Operand->Option AP
 |.tmp t=>some (.t t)
 |.const v=>if flat v then some (.c v)else none
 |.func f=>some (.c (.func (.func f) #[] #[]))
 |.global _=>none
def Fu:List Operand->Option (List AP)
 |[]=>some []
 |x::xs=>(AJ x).bind fun y=>(Fu xs).map (y:: ·)
def GH:Option Operand->Option (Option AP)
 |none=>some none
 |some x=>(AJ x).map some
def GN (place:Nat->Option (Nat × Nat)):List (Nat × Operand)->Option (List (Nat × Nat × AP))
 |[]=>some []
 |(i,x)::rest=>(place i).bind fun p=>(AJ x).bind fun y=>(GN place rest).map ((p.1,p.2,y):: ·)

def Zn:BinOp->Option aL
 |.add=>some .add
 |.sub=>some .sub
 |.mul=>some .mul
 |.eql=>some .eql
 |.neq=>some .neq
 |.lss=>some .lss
 |.leq=>some .leq
 |.gtr=>some .gtr
 |.geq=>some .geq
 |_=>none

def GA (P:Program) (fields:Array Field) (i:Nat):Option (Nat × Nat):=(fields[i]?).bind fun f=>(sizeT P f.type).map fun s=>(f.offset,s)

def ae (P:Program) (o:Oper) (op:BinOp) (t:TypeId) (x y:Operand):Option Bn:=
 (AJ x).bind fun x'=>(AJ y).bind fun y'=>
 match P.underlying t with
 | some (.int .i64)=>
   match Zn op with
   |some i=>some (.int i x' y')
   | none=>match op with
     |.quo=>some (.Ls true x' y')
     |.rem=>some (.Ls false x' y')
     |_=>some (.pure o)
 | some (.pointer _)=>match op with
   |.eql=>some (.cmp (some false) false x' y' o)
   |.neq=>some (.cmp (some false) true x' y' o)
   |_=>some (.pure o)
 | some (.slice _)=>match op with
   |.eql=>some (.cmp (some true) false x' y' o)
   |.neq=>some (.cmp (some true) true x' y' o)
   |_=>some (.pure o)
 | some (.map _ _)=>match op with
   |.eql=>some (.cmp none false x' y' o)
   |.neq=>some (.cmp none true x' y' o)
   |_=>some (.pure o)
 |_=>some (.pure o)

def Oc (P:Program) (o:Oper) (c:Call):Option LX:=
 match c.callee with
 |.value f=>(AJ f).bind fun f'=>(Fu c.args.toList).map fun as_=>.call f' as_
 | .invoke x nm=>match AJ x with
   |some (.t n)=>(Fu c.args.toList).map fun as_=>.call (.m n nm) as_
   |_=>none
 | .builtin b=>
   match c.args.toList,c.argTypes.toList with
   | [x],[t]=>
     (AJ x).bind fun x'=>
     match b,P.underlying t with
     |.len,some (.slice _)=>some (.op (.len x'))
     |.len,some .string=>some (.op (.Qz x'))
     |.len,some (.map _ _)=>some (.op (.JR x'))
     |.cap,some (.slice _)=>some (.op (.cap x'))
     |.clear,some (.slice e)=>(DT P e).map fun z=>.op (.aO (Aq z) x')
     |_,_=>none
   | [x,y],[t,u]=>
     (AJ x).bind fun x'=>(AJ y).bind fun y'=>
     match b,P.underlying t with
     | .append,some (.slice e)=>
       match P.underlying u with
       |some (.int _)=>none
       |some _=>(P.info? e).bind fun ie=>(DT P e).bind fun z=>if ie.size≠0/\(Aq z).length=ie.size then some (.op (.append e ie.size ie.bytes x' y'))else none
       |none=>none
     |.copy,some (.slice e)=>(sizeT P e).map fun s=>.op (.copy s x' y')
     |.delete,some (.map k _)=>some (.op (.delete k x' y'))
     |.min,some (.int .i64)=>some (.op (.R9 false x' y'))
     |.max,some (.int .i64)=>some (.op (.R9 true x' y'))
     |.min,_=>some (.op (.pure o))
     |.max,_=>some (.op (.pure o))
     |_,_=>none
   | xs,_=>
     match b with
     |.min|.max=>(Fu xs).map fun _=>.op (.pure o)
     |_=>none

def KS (P:Program) (o:Oper):Option LX:=
 match o.op with
 |.move x=>(AJ x).map fun x'=>.op (.mv x')
 |.assign x=>(AJ x).map fun x'=>.op (.mv x')
 |.pick c a b=>(AJ c).bind fun c'=>(AJ a).bind fun a'=>(AJ b).map fun b'=>.op (.pick c' a' b')
 |.alloc e=>(DT P e).map fun z=>.op (.alloc (Aq z) e)
 |.box e x=>(AJ x).map fun x'=>.op (.box x' e)
 | .build t parts=>
   (DT P t).bind fun z=>
   match P.underlying t with
   |some (.struct fields)=>if fields.toList.all (fun f=>(sizeT P f.type).isSome)=true then(GN (GA P fields) parts.toList).map fun ps=>.op (.build (Aq z) ps)else none
   |some (.array _ e)=>(sizeT P e).bind fun s=>(GN (fun i=>some (i*s,s)) parts.toList).map fun ps=>.op (.build (Aq z) ps)
   |_=>none
 | .buildSlice t len parts=>
   match P.underlying t with
   | some (.slice e)=>
     (P.info? e).bind fun ie=>(DT P e).bind fun z=>
     if len*ie.size<=2^24/\ie.size≠0/\(Aq z).length=ie.size then
      (GN (fun i=>some (i*ie.size,ie.size)) parts.toList).map fun ps=>.op (.CI (Gk (Aq z) len) ps len e)
     else none
   |_=>none
 | .load t a=>
   (AJ a).bind fun a'=>
   match BU P t with
   |some true=>(sizeT P t).map fun n=>.op (.Bb n a')
   |some false=>some (.op (.Ad a'))
   |none=>none
 |.store t a x=>(sizeT P t).bind fun n=>(AJ a).bind fun a'=>(AJ x).map fun x'=>.op (.store n a' x')
 |.nilCheck x=>(AJ x).map fun x'=>.op (.AY x')
 |.binOp op t x y _=>(ae P o op t x y).map .op
 | .unOp op t x=>
   (AJ x).bind fun x'=>
   match op,P.underlying t with
   |.not,_=>some (.op (.not x'))
   |.neg,some (.int .i64)=>some (.op (.neg x'))
   |_,_=>some (.op (.pure o))
 | .convert s d x=>
   (AJ x).bind fun x'=>
   match P.underlying s,P.underlying d with
   |some (.int _),some (.int k)=>some (.op (.conv k x'))
   | some (.slice e),some .string=>match P.underlying e with
     |some (.int .u8)=>some (.op (.jk x'))
     |_=>none
   |_,_=>some (.op (.pure o))
 | .makeInterface t x=>
   match P.underlying t with
   |some (.interface _)=>none
   |some _=>(AJ x).map fun x'=>.op (.Jw t x')
   |none=>none
 |.makeFunc fn first captured=>if LA fn then(Fu first.toList).bind fun f=>(Fu captured.toList).map fun c=>.op (.NC fn f c)else none
 |.makeMap _ none=>some (.op .II)
 | .makeSlice t l c=>
   match P.underlying t with
   | some (.slice e)=>
     (P.info? e).bind fun ie=>(DT P e).bind fun z=>
     if ie.size≠0/\(Aq z).length=ie.size then
      (AJ l).bind fun l'=>(AJ c).map fun c'=>.op (.FJ (Aq z) ie.bytes e l' c')
     else none
   |_=>none
 | .slice t x lo hi mx=>
   (AJ x).bind fun x'=>(GH lo).bind fun lo'=>(GH hi).bind fun hi'=>(GH mx).bind fun mx'=>
   if mx'.isSome/\hi'.isNone then none else
   match P.underlying t with
   |some (.array n e)=>(sizeT P e).map fun s=>.op (.Io n s x' lo' hi' mx')
   |some (.slice e)=>(sizeT P e).map fun s=>.op (.Hw s x' lo' hi' mx')
   |some .string=>some (.op (.pure o))
   |_=>none
 | .fieldAddr s x f=>
   match P.underlying s with
   |some (.struct fields)=>(fields[f]?).bind fun fd=>(sizeT P fd.type).bind fun n=>if n=0 then none else(AJ x).map fun x'=>.op (.Ab fd.offset x')
   |_=>none
 | .field t x f=>
   match P.underlying t with
   | some (.struct fields)=>
     (fields[f]?).bind fun fd=>(AJ x).bind fun x'=>
     match BU P fd.type with
     |some true=>(sizeT P fd.type).map fun n=>.op (.N2 fd.offset n x')
     |some false=>some (.op (.field1 fd.offset x'))
     |none=>none
   |_=>none
 | .indexAddr t x i=>
   (AJ x).bind fun x'=>(AJ i).bind fun i'=>
   match P.underlying t with
   |some (.array n e)=>(sizeT P e).map fun s=>.op (.Hf n s x' i')
   |some (.slice e)=>(sizeT P e).map fun s=>.op (.D4 s x' i')
   |_=>none
 | .index t x i=>
   (AJ x).bind fun x'=>(AJ i).bind fun i'=>
   match P.underlying t with
   | some (.array n e)=>
     match BU P e with
     |some true=>(sizeT P e).map fun s=>.op (.Xg n s x' i')
     |some false=>if sizeT P e=some 1 then some (.op (.gu n x' i'))else none
     |none=>none
   |some .string=>some (.op (.pure o))
   |_=>none
 |.extract x i=>(AJ x).map fun x'=>.op (.extract x' i)
 | .typeAssert x _ t ok=>
   match P.underlying t with
   |some (.interface _)=>if ok=true then none else(AJ x).map fun x'=>.op (.M6 t x')
   |some _=>(DT P t).bind fun z=>(AJ x).map fun x'=>.op (.Yi t z ok x')
   |none=>none
 | .lookup t m k ok=>
   match P.underlying t with
   |some (.map kt e)=>(DT P e).bind fun z=>(AJ m).bind fun m'=>(AJ k).map fun k'=>.op (.lookup kt z ok m' k')
   |_=>none
 | .mapUpdate t m k v=>
   match P.underlying t with
   |some (.map kt _)=>(AJ m).bind fun m'=>(AJ k).bind fun k'=>(AJ v).map fun v'=>.op (.Fs kt m' k' v')
   |_=>none
 | .insert t m k v=>
   match P.underlying t with
   |some (.map kt _)=>(AJ m).bind fun m'=>(AJ k).bind fun k'=>(AJ v).map fun v'=>.op (.Fs kt m' k' v')
   |_=>none
 |.call c=>Oc P o c
 |.panic _=>some (.op .dead)
 | .range t x=>
   match P.underlying t with
   |some (.map _ _)=>(AJ x).map fun x'=>.op (.EN x')
   |some .string=>(AJ x).map fun x'=>.op (.JO x')
   |_=>none
 |.next x st=>if st=true then(AJ x).map fun x'=>.op (.JB x')else none
 |.entry x=>(AJ x).map fun x'=>.op (.entry x')
 | .mapEntry t m k=>
   match P.underlying t with
   |some (.map kt e)=>(DT P e).bind fun z=>(AJ m).bind fun m'=>(AJ k).map fun k'=>.op (.Ez kt z m' k')
   |_=>none
 |.entryStore _ m s v=>(AJ m).bind fun m'=>(AJ s).bind fun s'=>(AJ v).map fun v'=>.op (.GC m' s' v')
 |_=>none

def comp (P:Program) (o:Oper):Option LX:=match o.op with
 |.defer _=>none
 |.next _ false=>none
 |_=>some ((KS P o).getD (.op .dead))
theorem QY {P:Program}{o:Oper}{ao:Bn}(h:comp P o=some (.op ao)) (hd:ao≠ .dead):KS P o=some (.op ao):=by
 unfold comp at h
 split at h
 ·cases h
 ·cases h
 ·cases e:KS P o with
  |none=>rw[e]at h;simp at h;exact absurd h.symm hd
  |some x=>rw[e]at h;simpa using h

end AE

/- Operations that touch nothing of the heap. -/
namespace AE
open Go

section
variable {P:Program}{I:Al}{ts:Ts}{ρ:Operand->Value}

def Ev (I:Al) (ts:Ts) (ρ:Operand->Value):Prop:=∀x x',AJ x=some x'->ρ x=ren I (ev ts x')/\In I (ev ts x')

theorem DZ {α:Type}(P:Program):∀(s:Sem α) (a:α),Au P s=some a->∀w,s.run P w= .ok a w
 |.pure b,a,h,w=>by simp[Au]at h;subst h;rfl
 | .program k,a,h,w=>by
   simp only[Au]at h
   exact DZ P (k P) a h w
 |.load _ _ _,_,h,_=>by simp[Au]at h
 |.store _ _ _ _,_,h,_=>by simp[Au]at h
 |.new _ _,_,h,_=>by simp[Au]at h
 |.shape _ _,_,h,_=>by simp[Au]at h
 |.freeze _ _ _,_,h,_=>by simp[Au]at h
 |.frozen _ _,_,h,_=>by simp[Au]at h
 |.getObj _ _,_,h,_=>by simp[Au]at h
 |.setObj _ _ _,_,h,_=>by simp[Au]at h
 |.choose _ _,_,h,_=>by simp[Au]at h
 |.sys _ _,_,h,_=>by simp[Au]at h
 |.mark _ _,_,h,_=>by simp[Au]at h
 |.halt _,_,h,_=>by simp[Au]at h

def DJ (P:Program) (I:Al) (ρ:Operand->Value) (o:Oper) (v:Value):Prop:=In I v/\∀w,(execOp ρ o).run P w= .ok (.value (ren I v)) w

theorem EE (hρ:Ev I ts ρ) {o:Oper}{v:Value}(hs:∀cs b,o.op≠ .select cs b) (hx:∀x∈o.op.operands,∃x',AJ x=some x')
 (h:EJ P ts o=some v):DJ P I ρ o v:=by
 unfold EJ at h
 split at h
 ·rename_i hf
  have uK:∀x∈o.op.operands,ρ x=Ii ts x:=by
   intro x hxm
   obtain⟨x',e⟩:=hx x hxm
   have hfl:flat (Ii ts x)=true:=List.all_eq_true.1 hf x (by simpa using hxm)
   have hev:ev ts x'=Ii ts x:=by
    cases x with
    |tmp t=>simp[AJ]at e;subst e;rfl
    |const v=>simp only[AJ]at e;split at e<;>simp at e;subst e;rfl
    |global g=>simp[AJ]at e
    |func f=>simp[AJ]at e;subst e;rfl
   rw[(hρ x x' e).1,hev,(Bi I _ hfl).1]
  rw[DJ,execOp_congr o hs uK]
  unfold Kt at h
  split at h
  ·rename_i v' hr
   split at h
   ·rename_i uP
    simp at h;subst h
    obtain⟨e,i⟩:=Bi I v' uP
    exact⟨i,fun w=>by rw[e];exact DZ P _ _ hr w⟩
   ·simp at h
  ·simp at h
 ·simp at h


theorem Bu {t:TypeId}{n:Nat}(h:sizeT P t=some n) (w:World):(Go.sizeOf t).run P w= .ok n w:=by
 unfold sizeT at h
 cases hi:P.info? t with
 |none=>simp[hi]at h
 |some i=>simp[hi]at h;simp[Go.sizeOf,run_typeInfo w hi,h]
theorem Hz {t:TypeId}{b:Bool}(h:BU P t=some b) (w:World):(isAgg t).run P w= .ok b w:=by
 unfold BU at h
 cases hu:P.underlying t with
 |none=>simp[hu]at h
 |some d=>cases d<;>simp[hu]at h<;>subst h<;>simp[isAgg,run_underlying hu]
theorem BG {t:TypeId}{z:Value}(h:DT P t=some z) (w:World):(zeroValue t).run P w= .ok z w/\flat z=true:=by
 unfold DT dL at h
 cases hi:P.info? t with
 |none=>simp[hi]at h
 | some i=>
   simp only[hi,Option.bind_some]at h
   cases hz:i.zero with
   |none=>simp[hz]at h
   | some z'=>
     simp only[hz,Option.bind_some]at h
     split at h<;>simp at h
     subst h
     exact⟨by simp[zeroValue,run_typeInfo w hi,hz],by assumption⟩

theorem Vs (hρ:Ev I ts ρ) {o:Oper}{x:Operand}{x':AP}(ho:o.op= .move x\/o.op= .assign x) (hx:AJ x=some x'):DJ P I ρ o (ev ts x'):=by
 obtain⟨e,i⟩:=hρ x x' hx
 rcases ho with ho|ho<;>exact⟨i,fun w=>by simp[execOp,ho,e]⟩

theorem WW (hρ:Ev I ts ρ) {o:Oper}{c a b:Operand}{c' a' b':AP}{v:Value}(ho:o.op= .pick c a b) (hc:AJ c=some c') (ha:AJ a=some a') (hb:AJ b=some b')
 (h:OM (ev ts a') (ev ts b') (ev ts c')=some v):DJ P I ρ o v:=by
 obtain⟨ec, -⟩:=hρ c c' hc
 obtain⟨ea,ia⟩:=hρ a a' ha
 obtain⟨eb,ib⟩:=hρ b b' hb
 unfold OM at h
 split at h
 ·rename_i t ht
  rw[ht]at ec
  simp at h;subst h
  refine⟨by split<;>assumption,fun w=>?_⟩
  simp only[execOp,ho,ec,ea,eb,ren]
  cases t<;>simp[asBool]
 ·simp at h

theorem T7 (hρ:Ev I ts ρ) {o:Oper}{x:Operand}{x':AP}{v:Value}(ho:o.op= .nilCheck x) (hx:AJ x=some x') (h:MR (ev ts x')=some v):DJ P I ρ o v:=by
 obtain⟨e,i⟩:=hρ x x' hx
 unfold MR at h
 split at h
 ·rename_i a ha
  rw[ha]at e i
  simp at h;subst h
  refine⟨i,fun w=>?_⟩
  obtain⟨p,hp⟩:=i
  simp[execOp,ho,e,ren,Cx,hp]
 ·simp at h

theorem Y3 (hρ:Ev I ts ρ) {o:Oper}{op:BinOp}{i:aL}{t t':TypeId}{x y:Operand}{x' y':AP}{v:Value}(ho:o.op= .binOp op t x y t')
 (hi:Zn op=some i) (hx:AJ x=some x') (hy:AJ y=some y') (h:XY i (ev ts x') (ev ts y')=some v):DJ P I ρ o v:=by
 obtain⟨ex, -⟩:=hρ x x' hx
 obtain⟨ey, -⟩:=hρ y y' hy
 unfold XY at h
 split at h
 ·rename_i a b ha hb
  rw[ha]at ex
  rw[hb]at ey
  simp only[ren]at ex ey
  simp at h;subst h
  cases op<;>simp[Zn]at hi<;>subst hi<;>
   exact⟨by simp[Tp,In],fun w=>by simp[execOp,ho,ex,ey,eqGuard,binOp,Op.intArith,Op.intCmp,Tp,ren,Rl]⟩
 ·simp at h

theorem Pg (hρ:Ev I ts ρ) {o:Oper}{op:BinOp}{q:Bool}{t t':TypeId}{x y:Operand}{x' y':AP}{v:Value}(ho:o.op= .binOp op t x y t')
 (hi:op=if q then .quo else .rem) (hx:AJ x=some x') (hy:AJ y=some y') (h:LY q (ev ts x') (ev ts y')=some v):DJ P I ρ o v:=by
 obtain⟨ex, -⟩:=hρ x x' hx
 obtain⟨ey, -⟩:=hρ y y' hy
 unfold LY at h
 split at h
 ·rename_i a b ha hb
  rw[ha]at ex
  rw[hb]at ey
  simp only[ren]at ex ey
  split at h<;>simp at h
  rename_i hb0
  subst h
  cases q<;>simp at hi<;>subst hi<;>
   exact⟨by simp[In],fun w=>by simp[execOp,ho,ex,ey,eqGuard,binOp,Op.intDiv,hb0,ren,Rl]⟩
 ·simp at h

theorem Y0 (hρ:Ev I ts ρ) {o:Oper}{t:TypeId}{x:Operand}{x':AP}{v:Value}(ho:o.op= .unOp .not t x) (hx:AJ x=some x') (h:Wa (ev ts x')=some v):DJ P I ρ o v:=by
 obtain⟨e, -⟩:=hρ x x' hx
 unfold Wa at h
 split at h
 ·rename_i b hb
  rw[hb]at e
  simp at h;subst h
  exact⟨by simp[In],fun w=>by simp[execOp,ho,e,ren,Op.unary]⟩
 ·simp at h
theorem Y1 (hρ:Ev I ts ρ) {o:Oper}{t:TypeId}{x:Operand}{x':AP}{v:Value}(ho:o.op= .unOp .neg t x) (hx:AJ x=some x') (h:aS (ev ts x')=some v):DJ P I ρ o v:=by
 obtain⟨e, -⟩:=hρ x x' hx
 unfold aS at h
 split at h
 ·rename_i b hb
  rw[hb]at e
  simp at h;subst h
  exact⟨by simp[In],fun w=>by simp[execOp,ho,e,ren,Op.unary,Op.intArith,Rl]⟩
 ·simp at h
theorem W7 (hρ:Ev I ts ρ) {o:Oper}{s d:TypeId}{j k:IntKind}{x:Operand}{x':AP}{v:Value}(ho:o.op= .convert s d x) (hs:P.underlying s=some (.int j)) (hd:P.underlying d=some (.int k))
 (hx:AJ x=some x') (h:U1 k (ev ts x')=some v):DJ P I ρ o v:=by
 obtain⟨e, -⟩:=hρ x x' hx
 unfold U1 at h
 split at h
 ·rename_i b hb
  rw[hb]at e
  simp at h;subst h
  exact⟨by simp[In],fun w=>by simp[execOp,ho,e,ren,convert,run_underlying hs,run_underlying hd,Conv.intToInt]⟩
 ·simp at h
theorem Pf (hρ:Ev I ts ρ) {o:Oper}{m:Bool}{b:Builtin}{x y:Operand}{x' y':AP}{ty:Array TypeId}{v:Value}(hb:b=if m then .max else .min) (ho:o.op= .call ⟨.builtin b, #[x,y],ty⟩)
 (hx:AJ x=some x') (hy:AJ y=some y') (h:OO m (ev ts x') (ev ts y')=some v):DJ P I ρ o v:=by
 obtain⟨ex, -⟩:=hρ x x' hx
 obtain⟨ey, -⟩:=hρ y y' hy
 unfold OO at h
 split at h
 ·rename_i a c ha hc
  rw[ha]at ex
  rw[hc]at ey
  simp only[ren]at ex ey
  simp at h;subst h
  cases m<;>simp at hb<;>subst hb<;>
   exact⟨by simp[In],fun w=>by simp[execOp,ho,ex,ey,resolve,invoke,builtin,Builtin.min_,Builtin.max_,Builtin.min2,Builtin.max2,ren]⟩
 ·simp at h
theorem WX (hρ:Ev I ts ρ) {o:Oper}{t:TypeId}{d:TypeDesc}{x:Operand}{x':AP}(ho:o.op= .makeInterface t x) (ht:P.underlying t=some d) (hd:∀m,d≠ .interface m) (hx:AJ x=some x'):
 DJ P I ρ o (.iface t (ev ts x')):=by
 obtain⟨e,i⟩:=hρ x x' hx
 refine⟨by simpa[In]using i,fun w=>?_⟩
 cases d<;>first
  |exact absurd rfl (hd _)
  |simp[execOp,ho,e,ren,Instr.makeInterface,run_underlying ht]

theorem Ob (hρ:Ev I ts ρ):∀(xs:List Operand) (ys:List AP),Fu xs=some ys->xs.map ρ=Ah I (ys.map (ev ts))/\BH I (ys.map (ev ts))
 |[],ys,h=>by simp[Fu]at h;subst h;simp[Ah,BH]
 | x::xs,ys,h=>by
   simp only[Fu,Option.bind_eq_some_iff,Option.map_eq_some_iff]at h
   obtain⟨y,hy,zs,hz,rfl⟩:=h
   obtain⟨e,i⟩:=hρ x y hy
   obtain⟨e2,i2⟩:=Ob hρ xs zs hz
   simp only[List.map_cons,Ah,BH]
   exact⟨by rw[e,e2],i,i2⟩
theorem W3 (hρ:Ev I ts ρ) {o:Oper}{fn:Fn}{fs cs:Array Operand}{f' c':List AP}(ho:o.op= .makeFunc fn fs cs) (hf:LA fn=true) (h1:Fu fs.toList=some f') (h2:Fu cs.toList=some c'):
 DJ P I ρ o (.func fn ⟨f'.map (ev ts)⟩ ⟨c'.map (ev ts)⟩):=by
 obtain⟨e1,i1⟩:=Ob hρ _ _ h1
 obtain⟨e2,i2⟩:=Ob hρ _ _ h2
 have hn:DY I fn=fn/\Gn I fn:=by cases fn<;>simp_all[LA,DY,Gn]
 refine⟨by simp only[In];exact⟨hn.2,i1,i2⟩,fun w=>?_⟩
 have a1:fs.map ρ=⟨fs.toList.map ρ⟩:=by cases fs;simp
 have a2:cs.map ρ=⟨cs.toList.map ρ⟩:=by cases cs;simp
 simp[execOp,ho,Instr.makeFunc,ren,a1,a2,e1,e2,hn.1]

theorem G0 {a:Addr}(ha:Jt I a) (n:Nat):Jt I (BB a n)/\Cx I (BB a n)=(Cx I a).map (·.add n):=by
 obtain⟨p,hp⟩:=ha
 refine⟨⟨p,by simpa[BB]using hp⟩,?_⟩
 simp only[Cx,BB,hp,Option.map_some,Addr.add]
 split
 ·rename_i h;subst h;simp
 ·simp[Nat.add_assoc]
theorem CK {a:Addr}(ha:Jt I a):∃b,Cx I a=some b:=by
 obtain⟨p,hp⟩:=ha
 exact⟨⟨p.1,p.2+a.off,none⟩,by simp only[Cx,hp]⟩

theorem T9 (hρ:Ev I ts ρ) {o:Oper}{s:TypeId}{f n:Nat}{fields:Array Field}{fd:Field}{x:Operand}{x':AP}{v:Value}(ho:o.op= .fieldAddr s x f) (hs:P.underlying s=some (.struct fields))
 (hf:fields[f]? =some fd) (hn:sizeT P fd.type=some n) (hn0:n≠0) (hx:AJ x=some x') (h:MV fd.offset (ev ts x')=some v):DJ P I ρ o v:=by
 obtain⟨e,i⟩:=hρ x x' hx
 unfold MV at h
 split at h
 ·rename_i a ha
  rw[ha]at e i
  simp at h;subst h
  simp only[In]at i
  obtain⟨i2,e2⟩:=G0 i fd.offset
  obtain⟨b,hb⟩:=CK i
  refine⟨by simpa[In]using i2,fun w=>?_⟩
  simp[execOp,ho,e,ren,Instr.fieldAt,run_underlying hs,hf,Instr.sureAddr,hb,fieldPlace,Bu hn,hn0,e2]
 ·simp at h

theorem Gb {α:Type}{xs l:List α}{off n:Nat}(h:cut xs off n=some l):off+n<=xs.length/\l=(xs.drop off).take n:=by
 unfold cut at h
 split at h<;>simp at h
 exact⟨by assumption,h.symm⟩
theorem MP {xs l:List Value}{off n:Nat}(hx:BH I xs) (h:cut xs off n=some l):BH I l:=by
 obtain⟨-,rfl⟩:=Gb h
 exact(Js I _).2 fun v hv=>(Js I _).1 hx v (List.mem_of_mem_drop (List.mem_of_mem_take hv))
theorem Yz {xs l:List Value}{off n:Nat}(h:cut xs off n=some l):Ah I l=((Ah I xs).drop off).take n:=by
 obtain⟨-,rfl⟩:=Gb h
 simp[FZ,List.map_take,List.map_drop]

theorem Kk {t:TypeId}{n off:Nat}{cs l:List Value}(ha:BU P t=some true) (hn:sizeT P t=some n) (hc:cut cs off n=some l) (w:World):
 (part t ⟨Ah I cs⟩ off).run P w= .ok (.agg ⟨Ah I l⟩) w:=by
 rw[Yz hc]
 simp[part,Hz ha,Bu hn]
theorem Kj {t:TypeId}{off:Nat}{cs:List Value}{v:Value}(ha:BU P t=some false) (hc:cs[off]? =some v) (w:World):
 (part t ⟨Ah I cs⟩ off).run P w= .ok (ren I v) w:=by
 have:(Ah I cs)[off]? =some (ren I v):=by rw[BO,hc];rfl
 simp[part,Hz ha,this]

theorem Sg (hρ:Ev I ts ρ) {o:Oper}{s:TypeId}{f:Nat}{fields:Array Field}{fd:Field}{x:Operand}{x':AP}{v:Value}(ho:o.op= .field s x f) (hs:P.underlying s=some (.struct fields))
 (hf:fields[f]? =some fd) (ha:BU P fd.type=some false) (hx:AJ x=some x') (h:Ke fd.offset (ev ts x')=some v):DJ P I ρ o v:=by
 obtain⟨e,i⟩:=hρ x x' hx
 unfold Ke at h
 split at h
 ·rename_i cs hcs
  rw[hcs]at e i
  cases cs with|mk cs=>
  simp only[In]at i
  refine⟨Eb i h,fun w=>?_⟩
  rw[MB]at e
  simp[execOp,ho,e,Instr.field,run_underlying hs,hf,asAgg,Kj ha h]
 ·simp at h
theorem Sf (hρ:Ev I ts ρ) {o:Oper}{s:TypeId}{f n:Nat}{fields:Array Field}{fd:Field}{x:Operand}{x':AP}{v:Value}(ho:o.op= .field s x f) (hs:P.underlying s=some (.struct fields))
 (hf:fields[f]? =some fd) (ha:BU P fd.type=some true) (hn:sizeT P fd.type=some n) (hx:AJ x=some x') (h:My fd.offset n (ev ts x')=some v):DJ P I ρ o v:=by
 obtain⟨e,i⟩:=hρ x x' hx
 unfold My at h
 split at h
 ·rename_i cs hcs
  rw[hcs]at e i
  cases cs with|mk cs=>
  simp only[In]at i
  simp only[Option.map_eq_some_iff]at h
  obtain⟨l,hl,rfl⟩:=h
  refine⟨by simpa only[In]using MP i hl,fun w=>?_⟩
  rw[MB]at e
  simp[execOp,ho,e,Instr.field,run_underlying hs,hf,asAgg,Kk ha hn hl,ren]
 ·simp at h

theorem Fa {v:Value}{i:Nat}(h:Cv v=some i):∃k,ren I v= .int k (i:Int):=by
 unfold Cv at h
 split at h
 ·rename_i k n
  split at h<;>simp at h
  exact⟨k,by simp only[ren];congr 1;omega⟩
 ·simp at h
theorem T8 (hρ:Ev I ts ρ) {o:Oper}{t e:TypeId}{n sz:Nat}{x y:Operand}{x' y':AP}{v:Value}(ho:o.op= .indexAddr t x y) (ht:P.underlying t=some (.array n e)) (hsz:sizeT P e=some sz)
 (hx:AJ x=some x') (hy:AJ y=some y') (h:MU n sz (ev ts y') (ev ts x')=some v):DJ P I ρ o v:=by
 obtain⟨e1,i1⟩:=hρ x x' hx
 obtain⟨e2, -⟩:=hρ y y' hy
 unfold MU at h
 split at h
 ·rename_i a ha
  rw[ha]at e1 i1
  simp only[Option.bind_eq_some_iff]at h
  obtain⟨i,hi,h⟩:=h
  obtain⟨k,hk⟩:=Fa (I:=I) hi
  rw[hk]at e2
  split at h<;>simp at h
  rename_i hlt
  subst h
  simp only[In]at i1
  obtain⟨i3,e3⟩:=G0 i1 (i*sz)
  obtain⟨b,hb⟩:=CK i1
  refine⟨by simpa[In]using i3,fun w=>?_⟩
  simp[execOp,ho,e1,e2,ren,Instr.indexAt,run_underlying ht,Instr.sureAddr,hb,asIntOf,Bu hsz,e3,hlt]
 ·simp at h
theorem W6 (hρ:Ev I ts ρ) {o:Oper}{t e:TypeId}{sz:Nat}{x y:Operand}{x' y':AP}{v:Value}(ho:o.op= .indexAddr t x y) (ht:P.underlying t=some (.slice e)) (hsz:sizeT P e=some sz)
 (hx:AJ x=some x') (hy:AJ y=some y') (h:Rs sz (ev ts y') (ev ts x')=some v):DJ P I ρ o v:=by
 obtain⟨e1,i1⟩:=hρ x x' hx
 obtain⟨e2, -⟩:=hρ y y' hy
 unfold Rs at h
 split at h
 ·rename_i a n c ha
  rw[ha]at e1 i1
  simp only[Option.bind_eq_some_iff]at h
  obtain⟨i,hi,h⟩:=h
  obtain⟨k,hk⟩:=Fa (I:=I) hi
  rw[hk]at e2
  split at h<;>simp at h
  rename_i hlt
  subst h
  have hcf:c<far:=by
   rcases Nat.lt_or_ge c far with hc|hc
   ·exact hc
   ·rw[I8 hc]at i1;omega
  rw[B8 hcf]at i1
  rw[BD hcf]at e1
  obtain⟨i3,e3⟩:=G0 i1.1 (i*sz)
  obtain⟨b,hb⟩:=CK i1.1
  refine⟨by simpa[In]using i3,fun w=>?_⟩
  simp[execOp,ho,e1,e2,ren,Instr.indexAt,run_underlying ht,hb,asIntOf,Bu hsz,e3,hlt]
 ·simp at h
theorem W5 (hρ:Ev I ts ρ) {o:Oper}{t e:TypeId}{n:Nat}{x y:Operand}{x' y':AP}{v:Value}(ho:o.op= .index t x y) (ht:P.underlying t=some (.array n e)) (hsz:sizeT P e=some 1) (ha:BU P e=some false)
 (hx:AJ x=some x') (hy:AJ y=some y') (h:XX n (ev ts y') (ev ts x')=some v):DJ P I ρ o v:=by
 obtain⟨e1,i1⟩:=hρ x x' hx
 obtain⟨e2, -⟩:=hρ y y' hy
 unfold XX at h
 split at h
 ·rename_i cs hcs
  rw[hcs]at e1 i1
  cases cs with|mk cs=>
  simp only[Option.bind_eq_some_iff]at h
  obtain⟨i,hi,h⟩:=h
  obtain⟨k,hk⟩:=Fa (I:=I) hi
  rw[hk]at e2
  split at h
  ·rename_i hlt
   simp only[In]at i1
   refine⟨Eb i1 h,fun w=>?_⟩
   rw[MB]at e1
   simp[execOp,ho,e1,e2,Instr.index,run_underlying ht,asIntOf,Bu hsz,hlt,Kj ha h]
  ·simp at h
 ·simp at h
theorem W4 (hρ:Ev I ts ρ) {o:Oper}{t e:TypeId}{n sz:Nat}{x y:Operand}{x' y':AP}{v:Value}(ho:o.op= .index t x y) (ht:P.underlying t=some (.array n e)) (hsz:sizeT P e=some sz) (ha:BU P e=some true)
 (hx:AJ x=some x') (hy:AJ y=some y') (h:XW n sz (ev ts y') (ev ts x')=some v):DJ P I ρ o v:=by
 obtain⟨e1,i1⟩:=hρ x x' hx
 obtain⟨e2, -⟩:=hρ y y' hy
 unfold XW at h
 split at h
 ·rename_i cs hcs
  rw[hcs]at e1 i1
  cases cs with|mk cs=>
  simp only[Option.bind_eq_some_iff]at h
  obtain⟨i,hi,h⟩:=h
  obtain⟨k,hk⟩:=Fa (I:=I) hi
  rw[hk]at e2
  split at h
  ·rename_i hlt
   simp only[Option.map_eq_some_iff]at h
   obtain⟨l,hl,rfl⟩:=h
   simp only[In]at i1
   refine⟨by simpa only[In]using MP i1 hl,fun w=>?_⟩
   rw[MB]at e1
   simp[execOp,ho,e1,e2,Instr.index,run_underlying ht,asIntOf,Bu hsz,hlt,Kk ha hsz hl,ren]
  ·simp at h
 ·simp at h
theorem Qy (hρ:Ev I ts ρ) {o:Oper}{x:Operand}{x':AP}{i:Nat}{v:Value}(ho:o.op= .extract x i) (hx:AJ x=some x') (h:Ik i (ev ts x')=some v):DJ P I ρ o v:=by
 obtain⟨e,hi⟩:=hρ x x' hx
 unfold Ik at h
 split at h
 ·rename_i vs hvs
  rw[hvs]at e hi
  cases vs with|mk vs=>
  simp only[In]at hi
  refine⟨Eb hi h,fun w=>?_⟩
  have:(Ah I vs)[i]? =some (ren I v):=by rw[BO];simp at h;rw[h];rfl
  simp[execOp,ho,e,ren,Instr.extract,this]
 ·simp at h
theorem Sd (hρ:Ev I ts ρ) {o:Oper}{t xt:TypeId}{x:Operand}{x':AP}{v:Value}(ho:o.op= .typeAssert x xt t false)
 (hx:AJ x=some x') (h:I9 P t (ev ts x')=some v):DJ P I ρ o v:=by
 obtain⟨e,i⟩:=hρ x x' hx
 unfold I9 at h
 split at h
 ·rename_i u y hy
  rw[hy]at e i
  simp only[ren,In]at e i
  split at h
  ·rename_i want fi ht hu
   split at h
   ·rename_i hm
    simp at h;subst h
    refine⟨by simpa[In]using i,fun w=>?_⟩
    have hm':Instr.missingMethod want fi.methods=none:=by simpa using hm
    have hti:(typeInfo u).run P w= .ok fi w:=by simp[typeInfo,program,Sem.run,hu]
    simp[execOp,ho,e,Instr.typeAssert,run_underlying ht,hti,hm',ren]
   ·simp at h
  ·simp at h
 ·simp at h
theorem WU (hρ:Ev I ts ρ) {o:Oper}{t xt:TypeId}{d:TypeDesc}{ok:Bool}{z:Value}{x:Operand}{x':AP}{v:Value}(ho:o.op= .typeAssert x xt t ok) (ht:P.underlying t=some d) (hd:∀m,d≠ .interface m)
 (hz:DT P t=some z) (hx:AJ x=some x') (h:XT t z ok (ev ts x')=some v):DJ P I ρ o v:=by
 obtain⟨e,i⟩:=hρ x x' hx
 have VD:=(BG hz default).2
 obtain⟨ez,iz⟩:=Bi I z VD
 unfold XT at h
 split at h
 ·rename_i u y hy
  rw[hy]at e i
  simp only[ren,In]at e i
  split at h
  ·rename_i hut
   subst hut
   simp at h;subst h
   cases ok
   ·refine⟨by simpa using i,fun w=>?_⟩
    cases d<;>first
     |exact absurd rfl (hd _)
     |simp[execOp,ho,e,Instr.typeAssert,run_underlying ht]
   ·refine⟨by simp[In,BH,i],fun w=>?_⟩
    cases d<;>first
     |exact absurd rfl (hd _)
     |simp[execOp,ho,e,Instr.typeAssert,run_underlying ht,ren,Ah]
  ·rename_i hut
   split at h<;>simp at h
   rename_i hok
   subst h
   refine⟨by simp[In,BH,iz],fun w=>?_⟩
   cases d<;>first
    |exact absurd rfl (hd _)
    |simp[execOp,ho,e,Instr.typeAssert,run_underlying ht,ren,Ah,hut,hok,(BG hz w).1,ez]
 ·rename_i hy
  rw[hy]at e
  simp only[ren]at e
  split at h<;>simp at h
  rename_i hok
  subst h
  refine⟨by simp[In,BH,iz],fun w=>?_⟩
  cases d<;>first
   |exact absurd rfl (hd _)
   |simp[execOp,ho,e,Instr.typeAssert,run_underlying ht,ren,Ah,hok,(BG hz w).1,ez]
 ·simp at h



theorem JA {α:Type}{xs ys:List α}{off:Nat}(h:off+ys.length<=xs.length):(splice xs off ys).length=xs.length:=by
 simp[splice];omega
theorem Iv (xs ys:List Value) (off:Nat):Ah I (splice xs off ys)=splice (Ah I xs) off (Ah I ys):=by
 simp[splice,FZ,List.map_take,List.map_drop]
theorem Kb {xs ys:List Value}{off:Nat}(hx:BH I xs) (hy:BH I ys):BH I (splice xs off ys):=by
 rw[Js]at*
 intro v hv
 simp only[splice,List.mem_append]at hv
 rcases hv with(hv|hv)|hv
 ·exact hx v (List.mem_of_mem_take hv)
 ·exact hy v hv
 ·exact hx v (List.mem_of_mem_drop hv)

theorem foldl_set (off:Nat):∀(vs:List Value) (k:Nat) (l:List Value),off+k+vs.length<=l.length->
 (vs.zipIdx k).foldl (fun cs (x:Value × Nat)=>cs.setIfInBounds (off+x.2) x.1) (⟨l⟩:Array Value)=⟨l.take (off+k)++vs++l.drop (off+k+vs.length)⟩
 |[],k,l,h=>by simp
 | v::vs,k,l,h=>by
   simp only[List.length_cons]at h
   simp only[List.zipIdx_cons,List.foldl_cons,List.setIfInBounds_toArray]
   rw[foldl_set off vs (k+1) _ (by simp;omega),List.set_eq_take_append_cons_drop,if_pos (by omega)]
   have e1:(l.take (off+k)).length=off+k:=by simp;omega
   congr 1
   have t1:((l.take (off+k))++v::l.drop (off+k+1)).take (off+(k+1))=l.take (off+k)++[v]:=by
    rw[List.take_append,e1]
    simp[show off+(k+1) - (off+k)=1 by omega]
    exact List.take_of_length_le (by simp;omega)
   have t2:((l.take (off+k))++v::l.drop (off+k+1)).drop (off+(k+1)+vs.length)=l.drop (off+k+(vs.length+1)):=by
    rw[List.drop_append,e1,List.drop_eq_nil_of_le (by simp;omega)]
    simp[show off+(k+1)+vs.length - (off+k)=vs.length+1 by omega]
    congr 1;omega
   rw[t1,t2]
   simp

theorem Km (hρ:Ev I ts ρ) (place:Nat->Option (Nat × Nat)):∀(ps:List (Nat × Operand)) (qs:List (Nat × Nat × AP)) (cells l:List Value),GN place ps=some qs->E5 ts cells qs=some l->BH I cells->
 Instr.fill place ⟨Ah I cells⟩ (ps.map fun(i,x)=>(i,ρ x))=some ⟨Ah I l⟩/\BH I l
 | [],qs,cells,l,hc,ha,hi=>by
   simp[GN]at hc;subst hc
   simp[E5]at ha;subst ha
   simp[Instr.fill,hi]
 | (i,x)::ps,qs,cells,l,hc,ha,hi=>by
   simp only[GN,Option.bind_eq_some_iff,Option.map_eq_some_iff]at hc
   obtain⟨p,hp,y,hy,uf,hq,rfl⟩:=hc
   obtain⟨off,size⟩:=p
   simp only[E5]at ha
   split at ha
   ·rename_i hf
    obtain⟨e,iv⟩:=hρ x y hy
    have hcl:=Gd I (ev ts y)
    obtain⟨hl,hoff⟩:=hf
    have ih:=Km hρ place ps uf _ l hq ha (Kb hi (Gj iv))
    refine⟨?_,ih.2⟩
    simp only[List.map_cons,Instr.fill,hp,e,C4]
    rw[if_neg (by simp[hcl,hl];omega)]
    rw[<-ih.1]
    congr 1
    rw[<-Array.foldl_toList,Array.toList_zipIdx]
    have:=foldl_set off (Aq (ren I (ev ts y))) 0 (Ah I cells) (by simp[hcl,hl];omega)
    simp only[Nat.add_zero]at this
    rw[this,Iv]
    simp[splice,hcl]
   ·simp at ha

theorem RJ {α β:Type}(w:World) (f:α->Sem β) (g:α->β):∀(l:List α),(∀x∈l,(f x).run P w= .ok (g x) w)->(l.mapM f).run P w= .ok (l.map g) w
 |[],_=>by simp
 | x::l,h=>by
   have ih:=RJ w f g l (fun y hy=>h y (by simp[hy]))
   simp only[List.mapM_cons,Sem.run_bind,h x (by simp),Result.andThen_ok,ih,Sem.run_pure,List.map_cons]
theorem WE {α β:Type}(w:World) (f:α->Sem β) (g:α->β) (xs:Array α) (h:∀x∈xs.toList,(f x).run P w= .ok (g x) w):(xs.mapM f).run P w= .ok ⟨xs.toList.map g⟩ w:=by
 rw[Array.mapM_eq_mapM_toList,Sem.run_map,RJ w f g _ h]
 rfl

theorem NG (hρ:Ev I ts ρ) {o:Oper}{t:TypeId}{parts:Array (Nat × Operand)}{z:Value}{ps:List (Nat × Nat × AP)}{l:List Value}(ho:o.op= .build t parts) (hz:DT P t=some z)
 (hp:(∃fields,P.underlying t=some (.struct fields)/\(fields.toList.all fun f=>(sizeT P f.type).isSome)=true/\GN (GA P fields) parts.toList=some ps)\/
  ∃n e s,P.underlying t=some (.array n e)/\sizeT P e=some s/\GN (fun i=>some (i*s,s)) parts.toList=some ps)
 (h:E5 ts (Aq z) ps=some l):DJ P I ρ o (.agg ⟨l⟩):=by
 have VD:=(BG hz default).2
 have hi:BH I (Aq z):=Gj (Bi I z VD).2
 have hrz:Ah I (Aq z)=Aq z:=by rw[<-Gd,(Bi I z VD).1]
 rcases hp with⟨fields,ht,hall,hc⟩|⟨n,e,s,ht,hs,hc⟩
 ·obtain⟨e1,i1⟩:=Km hρ _ _ _ _ _ hc h hi
  refine⟨by simpa[In]using i1,fun w=>?_⟩
  rw[hrz]at e1
  have hm:=WE (P:=P) w (fun f:Field=>(do pure (f.offset,<-Go.sizeOf f.type):Sem (Nat × Nat))) (fun f=>(f.offset,(sizeT P f.type).getD 0)) fields (fun f hf=>by
   obtain⟨n,hn⟩:=Option.isSome_iff_exists.1 (List.all_eq_true.1 hall f hf)
   simp only[Sem.run_bind,Bu hn,Result.andThen_ok,Sem.run_pure,hn,Option.getD_some])
  have hpl:(fun i=>(⟨fields.toList.map fun f=>(f.offset,(sizeT P f.type).getD 0)⟩:Array (Nat × Nat))[i]?)=GA P fields:=by
   funext i
   simp only[GA,List.getElem?_toArray,List.getElem?_map,Array.getElem?_toList]
   cases hf:fields[i]? with
   |none=>rfl
   | some f=>
     obtain⟨n,hn⟩:=Option.isSome_iff_exists.1 (List.all_eq_true.1 hall f (by
      have:=Array.mem_of_getElem? hf
      simpa using this))
     simp[hn]
  simp only[execOp,ho,Instr.build,Sem.run_bind,(BG hz w).1,run_underlying ht,Result.andThen_ok,hm,hpl]
  simp[C4,e1,ren]
 ·obtain⟨e1,i1⟩:=Km hρ _ _ _ _ _ hc h hi
  refine⟨by simpa[In]using i1,fun w=>?_⟩
  rw[hrz]at e1
  simp[execOp,ho,Instr.build,(BG hz w).1,run_underlying ht,Bu hs,C4,e1,ren]

end
end AE

/- Operations that touch nothing of the heap: comparisons with nil, slices, lengths. -/
namespace AE
open Go

section
variable {P:Program}{I:Al}{ts:Ts}{ρ:Operand->Value}

theorem F5 {o:Oper}{xs:List Operand}(ho:o.op.operands.toList=xs) (h:∀x∈xs,∃x',AJ x=some x'):∀x∈o.op.operands,∃x',AJ x=some x':=fun x hx=>h x (by rw[<-ho];simpa using hx)

theorem Mq (d:Nat) {t e:TypeId}(ht:P.underlying t=some (.pointer e)) (a b:Option Addr) (h:a.isNone=true\/b.isNone=true) (w:World):
 (Op.equalIn (d+1) t (.pointer a) (.pointer b)).run P w= .ok (a.isNone&&b.isNone) w:=by
 unfold Op.equalIn
 simp only[Sem.run_bind,run_underlying ht,Result.andThen_ok]
 cases a with
 |none=>simp
 | some a=>cases b with
   |none=>simp
   |some b=>simp at h
theorem Nk (d:Nat) {t e:TypeId}(ht:P.underlying t=some (.slice e)) (a b:Option Addr) (n1 c1 n2 c2:Nat) (h:a.isNone=true\/b.isNone=true) (w:World):
 (Op.equalIn (d+1) t (.slice a n1 c1) (.slice b n2 c2)).run P w= .ok (a.isNone&&b.isNone) w:=by
 unfold Op.equalIn
 simp only[Sem.run_bind,run_underlying ht,Result.andThen_ok]
 cases a with
 |none=>simp
 | some a=>cases b with
   |none=>simp
   |some b=>simp at h
theorem OA {t e:TypeId}(ht:P.underlying t=some (.pointer e)) (a b:Option Addr) (h:a.isNone=true\/b.isNone=true) (w:World):
 (Op.equal t (.pointer a) (.pointer b)).run P w= .ok (a.isNone&&b.isNone) w:=Mq 9999 ht a b h w
theorem Qg {t e:TypeId}(ht:P.underlying t=some (.slice e)) (a b:Option Addr) (n1 c1 n2 c2:Nat) (h:a.isNone=true\/b.isNone=true) (w:World):
 (Op.equal t (.slice a n1 c1) (.slice b n2 c2)).run P w= .ok (a.isNone&&b.isNone) w:=Nk 9999 ht a b n1 c1 n2 c2 h w

theorem YI {x:Value}{a:Option Addr}(e:x=ren I (.pointer a)) (i:In I (.pointer a)):∃a',x= .pointer a'/\a'.isNone=a.isNone:=by
 cases a with
 |none=>simp only[ren]at e;exact⟨_,e,rfl⟩
 | some a=>
   simp only[ren,In]at e i
   obtain⟨d,hd⟩:=CK i
   exact⟨_,e,by simp[hd]⟩
theorem Nf {x:Value}{a:Option Addr}{n c:Nat}(e:x=ren I (.slice a n c)) (i:In I (.slice a n c)):∃a' c',x= .slice a' n c'/\a'.isNone=a.isNone:=by
 cases a with
 |none=>simp only[ren]at e;exact⟨_,_,e,rfl⟩
 | some a=>
   rcases Nat.lt_or_ge c far with hc|hc
   ·rw[BD hc]at e
    rw[B8 hc]at i
    obtain⟨d,hd⟩:=CK i.1
    exact⟨_,_,e,by simp[hd]⟩
   ·rw[CR hc]at e
    exact⟨_,_,e,rfl⟩

theorem YS {a:Option Nat}{x:Value}(e:x=ren I (.map a)):∃b,x= .map b/\b.isNone=a.isNone:=by
 cases a with
 |none=>exact⟨none,by simpa[ren]using e,rfl⟩
 |some r=>exact⟨some (I.blk r),by simpa only[ren]using e,rfl⟩
theorem OB {t k e:TypeId}(ht:P.underlying t=some (.map k e)) (a b:Option Nat) (h:a.isNone=true\/b.isNone=true) (w:World):(Op.equal t (.map a) (.map b)).run P w= .ok (a.isNone&&b.isNone) w:=by
 unfold Op.equal Op.maxDepth Op.equalIn
 cases a<;>cases b<;>simp_all[run_underlying ht]

theorem Nj {t e:TypeId}(ht:P.underlying t=some (.pointer e)) {i:TypeInfo}(hi:P.info? e=some i) (a:Addr) (w:World):
 (Op.equal t (.pointer (some a)) (.pointer (some a))).run P w= .ok true w:=by
 have hs:(Go.sizeOf e).run P w= .ok i.size w:=by simp[Go.sizeOf,typeInfo,program,Sem.run,hi]
 show(Op.equalIn (9999+1) t _ _).run P w=_
 unfold Op.equalIn
 simp only[Sem.run_bind,run_underlying ht,Result.andThen_ok,hs]
 by_cases h0:i.size=0
 ·simp[h0]
 ·simp[h0,sameAddr]
theorem G3 (hρ:Ev I ts ρ) {o:Oper}{sl:Option Bool}{ne:Bool}{t t':TypeId}{x y:Operand}{x' y':AP}{v:Value}(ho:o.op= .binOp (if ne then .neq else .eql) t x y t')
 (ht:match sl with|some true=>∃e,P.underlying t=some (.slice e)|some false=>∃e,P.underlying t=some (.pointer e)|none=>∃k e,P.underlying t=some (.map k e)) (hx:AJ x=some x') (hy:AJ y=some y') (h:aT P sl ne ts x' y' o=some v):DJ P I ρ o v:=by
 have hpure:EJ P ts o=some v->DJ P I ρ o v:=fun hp=>EE hρ (by simp[ho]) (F5 (xs:=[x,y]) (by simp[ho,Op.operands]) (by simp[hx,hy])) hp
 obtain⟨e1,i1⟩:=hρ x x' hx
 obtain⟨e2,i2⟩:=hρ y y' hy
 unfold aT at h
 split at h
 ·rename_i b hb
  simp at h;subst h
  refine⟨by simp[In],fun w=>?_⟩
  unfold ZT at hb
  split at hb
  ·rename_i a c gG gF
   rw[gG]at e1 i1
   rw[gF]at e2 i2
   split at hb
   ·rename_i hc
    obtain⟨rfl,hc⟩:=hc
    simp only at ht
    obtain⟨e,ht⟩:=ht
    simp at hb;subst hb
    obtain⟨a',e1,n1⟩:=YI e1 i1
    obtain⟨c',e2,n2⟩:=YI e2 i2
    have hq:=OA (P:=P) ht a' c' (by rw[n1,n2];exact hc) w
    rw[n1,n2]at hq
    cases ne<;>simp[execOp,ho,e1,e2,eqGuard,binOp,hq,ren]
   ·simp at hb
  ·rename_i a k1 c1 c k2 c2 gG gF
   rw[gG]at e1 i1
   rw[gF]at e2 i2
   split at hb
   ·rename_i hc
    obtain⟨rfl,hc⟩:=hc
    simp only at ht
    obtain⟨e,ht⟩:=ht
    simp at hb;subst hb
    obtain⟨a',c1',e1,n1⟩:=Nf e1 i1
    obtain⟨c',c2',e2,n2⟩:=Nf e2 i2
    have hq:=Qg (P:=P) ht a' c' k1 c1' k2 c2' (by rw[n1,n2];exact hc) w
    rw[n1,n2]at hq
    cases ne<;>simp[execOp,ho,e1,e2,eqGuard,binOp,hq,ren]
   ·simp at hb
  ·rename_i a c gG gF
   rw[gG]at e1
   rw[gF]at e2
   split at hb
   ·rename_i hc
    obtain⟨rfl,hc⟩:=hc
    simp only at ht
    obtain⟨k,e,ht⟩:=ht
    simp at hb;subst hb
    obtain⟨a',e1,n1⟩:=YS e1
    obtain⟨c',e2,n2⟩:=YS e2
    have hq:=OB (P:=P) ht a' c' (by rw[n1,n2];exact hc) w
    rw[n1,n2]at hq
    cases ne<;>simp[execOp,ho,e1,e2,eqGuard,binOp,hq,ren]
   ·simp at hb
  ·simp at hb
 ·split at h
  ·rename_i hsame
   simp at h;subst h
   refine⟨by simp[In],fun w=>?_⟩
   unfold Vl at hsame
   split at hsame
   ·rename_i a b gG gF
    simp only[Bool.and_eq_true,decide_eq_true_eq,beq_iff_eq]at hsame
    obtain⟨⟨rfl,rfl⟩,hi⟩:=hsame
    simp only at ht
    obtain⟨e,ht⟩:=ht
    rw[ho]at hi
    simp only[ht]at hi
    obtain⟨i,hi⟩:=Option.isSome_iff_exists.1 hi
    rw[gG]at e1 i1
    rw[gF]at e2
    simp only[ren,In]at e1 e2 i1
    obtain⟨d,hd⟩:=CK i1
    rw[hd]at e1 e2
    have hq:=Nj (P:=P) ht hi d w
    cases ne<;>simp[execOp,ho,e1,e2,eqGuard,binOp,hq,ren]
   ·simp at hsame
  ·exact hpure h

theorem Y2 (hρ:Ev I ts ρ) {o:Oper}{t e:TypeId}{x:Operand}{x':AP}{v:Value}(ho:o.op= .call ⟨.builtin .len, #[x], #[t]⟩)
 (ht:P.underlying t=some (.slice e)) (hx:AJ x=some x') (h:XV (ev ts x')=some v):DJ P I ρ o v:=by
 obtain⟨e1,i⟩:=hρ x x' hx
 unfold XV at h
 split at h
 ·rename_i a n c ha
  simp at h;subst h
  refine⟨by simp[In],fun w=>?_⟩
  rw[ha]at e1
  obtain⟨a',c',e', -⟩:=Nf e1 (by rw[ha]at i;exact i)
  simp[execOp,ho,resolve,invoke,builtin,Builtin.len_,e',run_underlying ht,goInt,ren]
 ·simp at h
theorem Se (hρ:Ev I ts ρ) {o:Oper}{t:TypeId}{x:Operand}{x':AP}{v:Value}(ho:o.op= .call ⟨.builtin .len, #[x], #[t]⟩)
 (ht:P.underlying t=some .string) (hx:AJ x=some x') (h:PT (ev ts x')=some v):DJ P I ρ o v:=by
 obtain⟨e,i⟩:=hρ x x' hx
 unfold PT at h
 split at h
 ·rename_i s hs
  rw[hs]at e
  simp only[ren]at e
  simp at h;subst h
  refine⟨by simp[In],fun w=>?_⟩
  simp[execOp,ho,resolve,invoke,builtin,Builtin.len_,e,run_underlying ht,goInt,ren]
 ·simp at h
theorem Y4 (hρ:Ev I ts ρ) {o:Oper}{t e:TypeId}{x:Operand}{x':AP}{v:Value}(ho:o.op= .call ⟨.builtin .cap, #[x], #[t]⟩)
 (ht:P.underlying t=some (.slice e)) (hx:AJ x=some x') (h:eR (ev ts x')=some v):DJ P I ρ o v:=by
 obtain⟨e1,i⟩:=hρ x x' hx
 unfold eR at h
 split at h
 ·rename_i n c ha
  simp at h;subst h
  rw[ha]at e1
  simp only[ren]at e1
  refine⟨by simp[In],fun w=>?_⟩
  simp[execOp,ho,resolve,invoke,builtin,Builtin.cap_,e1,run_underlying ht,goInt,ren]
 ·rename_i a n c ha
  rw[ha]at e1
  split at h
  ·simp at h
  rename_i hcf
  rw[BD (Nat.not_le.1 hcf)]at e1
  simp only[Bq]at e1
  split at h
  ·rename_i hs
   simp at h;subst h
   rw[hs]at e1
   refine⟨by simp[In],fun w=>?_⟩
   simp[execOp,ho,resolve,invoke,builtin,Builtin.cap_,e1,run_underlying ht,goInt,ren]
  ·rename_i g hs
   split at h<;>simp at h
   rename_i hc
   subst h
   rw[hs]at e1
   simp only[hc,if_true]at e1
   refine⟨by simp[In],fun w=>?_⟩
   simp[execOp,ho,resolve,invoke,builtin,Builtin.cap_,e1,run_underlying ht,goInt,ren]
 ·simp at h


theorem F3 {d:Nat}{o:Option Value}{i:Nat}(h:BP d o=some i):(o=none/\i=d)\/∃v k,o=some v/\ren I v= .int k (i:Int):=by
 cases o with
 |none=>simp[BP]at h;exact .inl ⟨rfl,h.symm⟩
 | some v=>
   obtain⟨k,hk⟩:=Fa (I:=I) (by simpa[BP]using h)
   exact .inr ⟨v,k,rfl,hk⟩

theorem Ej {b:Bool}{len cap l hi m:Nat}{lo ho mo:Option Value}(hl:BP 0 lo=some l) (hh:BP len ho=some hi) (hm:BP cap mo=some m) (dY:mo.isSome->ho.isSome) (h1:m<=cap) (h2:hi<=m) (h3:l<=hi) (w:World):
 (Instr.sliceBounds b len cap (lo.map (ren I)) (ho.map (ren I)) (mo.map (ren I))).run P w= .ok (l,hi,m) w:=by
 rcases F3 (I:=I) hm with⟨rfl,rfl⟩|⟨vm,km,rfl,em⟩
 ·rcases F3 (I:=I) hh with⟨rfl,rfl⟩|⟨vh,kh,rfl,eh⟩<;>rcases F3 (I:=I) hl with⟨rfl,rfl⟩|⟨vl,kl,rfl,el⟩<;>
   simp[Instr.sliceBounds,Instr.sliceBound,asIntOf, *]<;>(try split)<;>simp_all<;>omega
 ·rcases F3 (I:=I) hh with⟨rfl,rfl⟩|⟨vh,kh,rfl,eh⟩
  ·simp at dY
  ·rcases F3 (I:=I) hl with⟨rfl,rfl⟩|⟨vl,kl,rfl,el⟩<;>
    simp[Instr.sliceBounds,Instr.sliceBound,asIntOf, *]<;>(try split)<;>simp_all<;>omega


theorem Ng {a b:Addr}(ha:Jt I a) (hb:Cx I a=some b) (l m sz:Nat):
 Jt I (CV a l m sz)/\Cx I (CV a l m sz)=some (if m=l then b else b.add (l*sz)):=by
 unfold CV
 split
 ·exact⟨ha,hb⟩
 ·obtain⟨i,e⟩:=G0 ha (l*sz)
  exact⟨i,by rw[e,hb];rfl⟩

theorem Dp (hρ:Ev I ts ρ) {o:Option Operand}{o':Option AP}(h:GH o=some o'):o.map ρ=(IY ts o').map (ren I):=by
 cases o with
 |none=>simp[GH]at h;subst h;rfl
 | some x=>
   simp only[GH,Option.map_eq_some_iff]at h
   obtain⟨x',hx,rfl⟩:=h
   simp[IY,(hρ x x' hx).1]
theorem KP {_o:Option Operand}{o':Option AP}:(IY ts o').isSome=o'.isSome:=by cases o'<;>simp[IY]

theorem T6 (hρ:Ev I ts ρ) {o:Oper}{t e:TypeId}{n sz:Nat}{x:Operand}{lo hi mx:Option Operand}{x':AP}{lo' hi' mx':Option AP}{v:Value}(ho:o.op= .slice t x lo hi mx) (ht:P.underlying t=some (.array n e))
 (hsz:sizeT P e=some sz) (hx:AJ x=some x') (hlo:GH lo=some lo') (hhi:GH hi=some hi') (hmx:GH mx=some mx') (dY:mx'.isSome->hi'.isSome)
 (h:Io n sz (IY ts lo') (IY ts hi') (IY ts mx') (ev ts x')=some v):DJ P I ρ o v:=by
 obtain⟨e1,i1⟩:=hρ x x' hx
 unfold Io at h
 split at h
 ·rename_i a ha
  rw[ha]at e1 i1
  simp only[ren,In]at e1 i1
  unfold De at h
  split at h
  ·rename_i l hi m hl hh hm
   split at h<;>simp at h
   rename_i hc
   subst h
   obtain⟨b,hb⟩:=CK i1
   rw[hb]at e1
   obtain⟨ia,ea⟩:=Ng i1 hb l m sz
   refine⟨?_,fun w=>?_⟩
   ·rw[B8 hc.2.2.2]
    refine⟨ia,?_⟩
    have hs:(CV a l m sz).spot=a.spot:=by unfold CV;split<;>rfl
    unfold C6 VM
    rw[hs]
    cases a.spot with
    |none=>simp[enc1];omega
    |some g=>simp[enc2,Nat.add_mod];omega
   ·have hb3:=Ej (P:=P) (I:=I) (b:=false) hl hh hm (by rw[KP (_o:=mx),KP (_o:=mx)];exact dY) hc.1 hc.2.1 hc.2.2.1 w
    have hs:(CV a l m sz).spot=a.spot:=by unfold CV;split<;>rfl
    have hcap:Bq I (CV a l m sz) (VM a.spot (m - l))=m - l:=by
     unfold Bq VM
     rw[hs]
     cases a.spot with
     |none=>simp[enc1]
     |some g=>simp[enc2,Nat.add_mod];omega
    simp only[execOp,ho,e1,Instr.sliceAt,Sem.run_bind,run_underlying ht,Result.andThen_ok,Instr.sureAddr,Sem.run_pure,Dp hρ hlo,Dp hρ hhi,Dp hρ hmx,hb3,Bu hsz,BD hc.2.2.2,ea,hcap]
  ·simp at h
 ·simp at h

theorem WV (hρ:Ev I ts ρ) {o:Oper}{t e:TypeId}{sz:Nat}{x:Operand}{lo hi mx:Option Operand}{x':AP}{lo' hi' mx':Option AP}{v:Value}(ho:o.op= .slice t x lo hi mx) (ht:P.underlying t=some (.slice e))
 (hsz:sizeT P e=some sz) (hx:AJ x=some x') (hlo:GH lo=some lo') (hhi:GH hi=some hi') (hmx:GH mx=some mx') (dY:mx'.isSome->hi'.isSome)
 (h:Hw sz (IY ts lo') (IY ts hi') (IY ts mx') (ev ts x')=some v):DJ P I ρ o v:=by
 obtain⟨e1,i1⟩:=hρ x x' hx
 have cF:(IY ts mx').isSome->(IY ts hi').isSome:=by rw[KP (_o:=mx),KP (_o:=mx)];exact dY
 unfold Hw at h
 split at h
 ·rename_i a len cap ha
  rw[ha]at e1 i1
  split at h
  ·split at h<;>try simp at h
   rename_i hc1 hc2
   subst hc2
   obtain⟨hl0, -⟩:=(I8 (Nat.le_refl _)).1 i1
   subst hl0
   rw[CR (Nat.le_refl _),Hj,Hh]at e1
   unfold Yp at h
   split at h<;>try simp at h
   rename_i l hi m hl hh hm
   obtain⟨⟨rfl,rfl,rfl⟩,rfl⟩:=h
   refine⟨i1,fun w=>?_⟩
   have hb3:=Ej (P:=P) (I:=I) (b:=true) hl hh hm cF (by omega) (by omega) (by omega) w
   simp only[execOp,ho,e1,Instr.sliceAt,Instr.slice,Sem.run_bind,run_underlying ht,Result.andThen_ok,Sem.run_pure,Dp hρ hlo,Dp hρ hhi,Dp hρ hmx,hb3,Bu hsz,CR (Nat.le_refl far),Hj,Hh,Option.map_some]
   rfl
  rename_i hcf
  rw[BD (Nat.not_le.1 hcf)]at e1
  rw[B8 (Nat.not_le.1 hcf)]at i1
  obtain⟨b,hb⟩:=CK i1.1
  rw[hb]at e1
  -- whatever the capacity c: bounds that fit give the slice
  have main:∀(l hi m c:Nat) (cap':Nat),Bq I a cap=c->BP 0 (IY ts lo')=some l->BP len (IY ts hi')=some hi->BP c (IY ts mx')=some m->m<=c->hi<=m->l<=hi->cap'<far->
   C6 I (CV a l m sz) (hi - l) cap'->Bq I (CV a l m sz) cap'=m - l->DJ P I ρ o (.slice (some (CV a l m sz)) (hi - l) cap'):=by
   intro l hi m c cap' hcap hl hh hm h1 h2 h3 KL hin hrc
   obtain⟨ia,ea⟩:=Ng i1.1 hb l m sz
   refine⟨by rw[B8 KL];exact⟨ia,hin⟩,fun w=>?_⟩
   have hb3:=Ej (P:=P) (I:=I) (b:=true) hl hh hm cF h1 h2 h3 w
   simp only[execOp,ho,e1,Instr.sliceAt,Instr.slice,Sem.run_bind,run_underlying ht,Result.andThen_ok,Sem.run_pure,Dp hρ hlo,Dp hρ hhi,Dp hρ hmx,hcap,hb3,Bu hsz,BD KL,ea,hrc,Option.map_some]
   split<;>rfl
  have hspot:∀l m,(CV a l m sz).spot=a.spot:=fun l m=>by unfold CV;split<;>rfl
  have hblk:∀l m,(CV a l m sz).block=a.block:=fun l m=>by unfold CV;split<;>rfl
  split at h
  ·rename_i hs
   unfold De at h
   split at h
   ·rename_i l hi m hl hh hm
    split at h<;>simp at h
    rename_i hc
    subst h
    refine main l hi m cap _ (by unfold Bq;rw[hs]) hl hh hm hc.1 hc.2.1 hc.2.2.1 hc.2.2.2 ?_ ?_
    ·unfold C6;rw[hspot,hs];simp[enc1];omega
    ·unfold Bq;rw[hspot,hs];simp[enc1]
   ·simp at h
  ·rename_i g hs
   unfold Qa at h
   have hin:=i1.2
   unfold C6 at hin
   rw[hs]at hin
   split at h
   ·rename_i hodd
    unfold De at h
    split at h
    ·rename_i l hi m hl hh hm
     split at h<;>simp at h
     rename_i hc
     subst h
     refine main l hi m (cap / 2) _ (by unfold Bq;rw[hs];simp[hodd]) hl hh hm hc.1 hc.2.1 hc.2.2.1 hc.2.2.2 ?_ ?_
     ·unfold C6;rw[hspot,hs];simp[enc2,Nat.add_mod];omega
     ·unfold Bq;rw[hspot,hs];simp[enc2,Nat.add_mod];omega
    ·simp at h
   ·rename_i VF
    simp only[VF,if_false]at hin
    have hcap:Bq I a cap=I.cap a.block g - cap / 2:=by unfold Bq;rw[hs];simp[VF]
    split at h
    ·rename_i hmn
     unfold Yo at h
     split at h
     ·rename_i l hi hl hh
      have hm:BP (I.cap a.block g - cap / 2) (IY ts mx')=some (I.cap a.block g - cap / 2):=by rw[hmn];rfl
      split at h
      rotate_left
      ·split at h<;>simp at h
       rename_i hc
       subst h
       obtain⟨h1,h2,h3,h4⟩:=hc
       subst h2
       have hk:M8 (cap / 2+l) (l*sz) - far - 1=(cap / 2+l) *4294967296+l*sz:=by unfold M8;omega
       have hD:((cap / 2+l) *4294967296+l*sz) / 4294967296=cap / 2+l:=by omega
       have hO:((cap / 2+l) *4294967296+l*sz)%4294967296=l*sz:=by omega
       have KL:far<=M8 (cap / 2+l) (l*sz):=by unfold M8;omega
       have hne:M8 (cap / 2+l) (l*sz)≠far:=by unfold M8;omega
       refine⟨by rw[I8 KL];exact⟨rfl,.inr i1.1⟩,fun w=>?_⟩
       have hb3:=Ej (P:=P) (I:=I) (b:=true) hl hh hm cF (by omega) (by omega) (by omega) w
       simp only[execOp,ho,e1,Instr.sliceAt,Instr.slice,Sem.run_bind,run_underlying ht,Result.andThen_ok,Sem.run_pure,Dp hρ hlo,Dp hρ hhi,Dp hρ hmx,hcap,hb3,Bu hsz,CR KL,Option.map_some]
       unfold ZK ZJ
       rw[if_neg hne,if_neg hne,hs,hk]
       dsimp only
       rw[hD,hO,hb]
       by_cases hlm:I.cap a.block g - cap / 2=l
       ·rw[if_pos (by omega)]
        simp only[Option.getD_some,Nat.sub_self]
        rw[show I.cap a.block g - cap / 2 - l=I.cap a.block g - (cap / 2+l) by omega]
        rw[if_pos (show I.cap a.block g=cap / 2+l by omega)]
       ·rw[if_neg (by omega)]
        simp only[Option.getD_some,Nat.sub_self]
        rw[show I.cap a.block g - cap / 2 - l=I.cap a.block g - (cap / 2+l) by omega]
        rw[if_neg (show¬I.cap a.block g=cap / 2+l by omega)]
      simp at h
      rename_i hc
      subst h
      by_cases hlm:I.cap a.block g - cap / 2=l
      ·have hl0:l=0:=by omega
       subst hl0
       have:=main 0 hi 0 (I.cap a.block g - cap / 2) (cap+2*0) hcap hl hh (by rw[hm,hlm]) (by omega) (by omega) (by omega) hc.2.2.2
       simp only[CV,if_true]at this
       have e0:BB a (0*sz)=a:=by cases a;simp[BB]
       rw[e0]
       refine this ?_ ?_
       ·unfold C6;rw[hs];simp[VF];omega
       ·unfold Bq;rw[hs];simp[VF];omega
      ·have:=main l hi (I.cap a.block g - cap / 2) (I.cap a.block g - cap / 2) (cap+2*l) hcap hl hh hm (by omega) (by omega) (by omega) hc.2.2.2
       simp only[CV,if_neg hlm]at this
       refine this ?_ ?_
       ·unfold C6;simp only[BB,hs];rw[if_neg (by omega)];omega
       ·unfold Bq;simp only[BB,hs];rw[if_neg (by omega)];omega
     ·simp at h
    ·rename_i mv hmv
     unfold De at h
     split at h
     ·rename_i l hi m hl hh hm
      split at h<;>simp at h
      rename_i hc
      subst h
      refine main l hi m _ _ hcap hl hh (by rw[hmv];exact hm) (by omega) hc.2.1 hc.2.2.1 hc.2.2.2 ?_ ?_
      ·unfold C6;rw[hspot,hs];simp[enc2,Nat.add_mod];omega
      ·unfold Bq;rw[hspot,hs];simp[enc2,Nat.add_mod];omega
     ·simp at h
 ·rename_i ha
  rw[ha]at e1 i1
  simp only[ren]at e1
  unfold U7 at h
  split at h
  ·rename_i l hi m hl hh hm
   split at h<;>simp at h
   rename_i hc
   obtain⟨rfl,rfl,rfl⟩:=hc
   subst h
   refine⟨by simp[In],fun w=>?_⟩
   have hb3:=Ej (P:=P) (I:=I) (b:=true) hl hh hm cF (by omega) (by omega) (by omega) w
   simp[execOp,ho,e1,Instr.sliceAt,Instr.slice,run_underlying ht,Dp hρ hlo,Dp hρ hhi,Dp hρ hmx,hb3,Bu hsz,ren]
  ·simp at h
 ·simp at h

end
end AE

/- Light operations, all of them: by what the loaded operation is. -/
namespace AE
open Go

section
variable {P:Program}{I:Al}{ts:Ts}{ρ:Operand->Value}

theorem Ar {h h':H}{o:Option Value}{v:Value}(e:keep h o=some (v,h')):o=some v/\h'=h:=by
 unfold keep at e
 simp only[Option.map_eq_some_iff,Prod.mk.injEq]at e
 obtain⟨u,hu,rfl,rfl⟩:=e
 exact⟨hu,rfl⟩

theorem PK:∀(xs:List Operand) (ys:List AP),Fu xs=some ys->∀x∈xs,∃x',AJ x=some x'
 |[],_,_,x,hx=>by simp at hx
 | y::xs,ys,h,x,hx=>by
   simp only[Fu,Option.bind_eq_some_iff,Option.map_eq_some_iff]at h
   obtain⟨y',hy,zs,hz,rfl⟩:=h
   rcases List.mem_cons.1 hx with rfl|hx
   ·exact⟨y',hy⟩
   ·exact PK xs zs hz x hx

theorem Z0 {c:Call}{b:Builtin}{x:Operand}{t:TypeId}(hb:c.callee= .builtin b) (hx:c.args.toList=[x]) (ht:c.argTypes.toList=[t]):c=⟨.builtin b, #[x], #[t]⟩:=by
 obtain⟨ce,as_,ty⟩:=c
 cases as_;cases ty
 simp at hb hx ht
 subst hb;subst hx;subst ht;rfl
theorem eA {c:Call}{b:Builtin}{x y:Operand}{t u:TypeId}(hb:c.callee= .builtin b) (hx:c.args.toList=[x,y]) (ht:c.argTypes.toList=[t,u]):c=⟨.builtin b, #[x,y], #[t,u]⟩:=by
 obtain⟨ce,as_,ty⟩:=c
 cases as_;cases ty
 simp at hb hx ht
 subst hb;subst hx;subst ht;rfl

theorem W8 (hρ:Ev I ts ρ) {o:Oper}{op:BinOp}{t t':TypeId}{x y:Operand}{ao:Bn}{lo Av:Nat}{h h':H}{v:Value}(ho:o.op= .binOp op t x y t') (hc:ae P o op t x y=some ao)
 (ha:BZ P lo Av ts h ao=some (v,h')):h'=h/\DJ P I ρ o v:=by
 unfold ae at hc
 simp only[Option.bind_eq_some_iff]at hc
 obtain⟨x',hx,y',hy,hc⟩:=hc
 have hpure:∀{h':H} {v:Value},BZ P lo Av ts h (.pure o)=some (v,h')->h'=h/\DJ P I ρ o v:=fun hp=>by
  obtain⟨C8,rfl⟩:=Ar hp
  exact⟨rfl,EE hρ (by simp[ho]) (F5 (xs:=[x,y]) (by simp[ho,Op.operands]) (by simp[hx,hy])) C8⟩
 split at hc
 ·split at hc
  ·rename_i i hi
   simp at hc;subst hc
   obtain⟨C8,rfl⟩:=Ar ha
   exact⟨rfl,Y3 hρ ho hi hx hy C8⟩
  ·split at hc
   ·simp at hc;subst hc
    obtain⟨C8,rfl⟩:=Ar ha
    exact⟨rfl,Pg hρ ho rfl hx hy C8⟩
   ·simp at hc;subst hc
    obtain⟨C8,rfl⟩:=Ar ha
    exact⟨rfl,Pg hρ ho rfl hx hy C8⟩
   ·simp at hc;subst hc
    exact hpure ha
 ·rename_i e ht
  split at hc<;>simp at hc<;>subst hc
  ·obtain⟨C8,rfl⟩:=Ar ha
   exact⟨rfl,G3 hρ (sl:=some false) (ne:=false) (by simpa using ho) (by simp[ht]) hx hy C8⟩
  ·obtain⟨C8,rfl⟩:=Ar ha
   exact⟨rfl,G3 hρ (sl:=some false) (ne:=true) (by simpa using ho) (by simp[ht]) hx hy C8⟩
  ·exact hpure ha
 ·rename_i e ht
  split at hc<;>simp at hc<;>subst hc
  ·obtain⟨C8,rfl⟩:=Ar ha
   exact⟨rfl,G3 hρ (sl:=some true) (ne:=false) (by simpa using ho) (by simp[ht]) hx hy C8⟩
  ·obtain⟨C8,rfl⟩:=Ar ha
   exact⟨rfl,G3 hρ (sl:=some true) (ne:=true) (by simpa using ho) (by simp[ht]) hx hy C8⟩
  ·exact hpure ha
 ·rename_i k e ht
  split at hc<;>simp at hc<;>subst hc
  ·obtain⟨C8,rfl⟩:=Ar ha
   exact⟨rfl,G3 hρ (sl:=none) (ne:=false) (by simpa using ho) (by simp[ht]) hx hy C8⟩
  ·obtain⟨C8,rfl⟩:=Ar ha
   exact⟨rfl,G3 hρ (sl:=none) (ne:=true) (by simpa using ho) (by simp[ht]) hx hy C8⟩
  ·exact hpure ha
 ·simp at hc;subst hc
  exact hpure ha

theorem Uc (hρ:Ev I ts ρ) {o:Oper}{c:Call}{ao:Bn}{lo Av:Nat}{h h':H}{v:Value}(ho:o.op= .call c) (hc:Oc P o c=some (.op ao)) (hl:ao.light=true) (hf:ao.fresh=false)
 (ha:BZ P lo Av ts h ao=some (v,h')):h'=h/\DJ P I ρ o v:=by
 unfold Oc at hc
 split at hc
 ·simp only[Option.bind_eq_some_iff,Option.map_eq_some_iff]at hc
  obtain⟨_,_,_,_,hc⟩:=hc
  simp at hc
 ·split at hc
  ·simp only[Option.map_eq_some_iff]at hc
   obtain⟨_,_,hc⟩:=hc
   simp at hc
  ·simp at hc
 ·rename_i b hb
  split at hc
  ·rename_i x t hx ht
   simp only[Option.bind_eq_some_iff]at hc
   obtain⟨x',hx',hc⟩:=hc
   have hcc:=Z0 hb hx ht
   split at hc<;>simp at hc<;>first
    |(subst hc;simp[Bn.light]at hl;done)
    |(obtain⟨_,_,hc⟩:=hc;subst hc;simp[Bn.light]at hl;done)
    |(subst hc;simp[Bn.light]at hl)
    |skip
   ·obtain⟨C8,rfl⟩:=Ar ha
    exact⟨rfl,Y2 hρ (by rw[ho,hcc]) (by assumption) hx' C8⟩
   ·obtain⟨C8,rfl⟩:=Ar ha
    exact⟨rfl,Se hρ (by rw[ho,hcc]) (by assumption) hx' C8⟩
   ·obtain⟨C8,rfl⟩:=Ar ha
    exact⟨rfl,Y4 hρ (by rw[ho,hcc]) (by assumption) hx' C8⟩
  ·rename_i x y t u hx ht
   simp only[Option.bind_eq_some_iff]at hc
   obtain⟨x',hx',y',hy',hc⟩:=hc
   have hcc:=eA hb hx ht
   have hpure:∀{h':H} {v:Value},BZ P lo Av ts h (.pure o)=some (v,h')->h'=h/\DJ P I ρ o v:=fun hp=>by
    obtain⟨C8,rfl⟩:=Ar hp
    exact⟨rfl,EE hρ (by simp[ho]) (F5 (xs:=[x,y]) (by simp[ho,hcc,Op.operands,Call.operands]) (by simp[hx',hy'])) C8⟩
   split at hc
   ·split at hc
    ·simp at hc
    ·simp only[Option.bind_eq_some_iff]at hc
     obtain⟨ie,_,z,_,hc⟩:=hc
     split at hc<;>simp at hc
     subst hc;simp[Bn.light]at hl
    ·simp at hc
   ·simp only[Option.map_eq_some_iff]at hc
    obtain⟨s,_,hc⟩:=hc
    simp at hc;subst hc;simp[Bn.light]at hl
   ·simp at hc;subst hc;simp[Bn.light]at hl
   ·simp at hc;subst hc
    obtain⟨C8,rfl⟩:=Ar ha
    exact⟨rfl,Pf hρ (m:=false) (by simp;rfl) (by rw[ho,hcc]) hx' hy' C8⟩
   ·simp at hc;subst hc
    obtain⟨C8,rfl⟩:=Ar ha
    exact⟨rfl,Pf hρ (m:=true) (by simp;rfl) (by rw[ho,hcc]) hx' hy' C8⟩
   ·simp at hc;subst hc;exact hpure ha
   ·simp at hc;subst hc;exact hpure ha
   ·simp at hc
  ·split at hc
   all_goals first
    |(simp at hc;done)
    | (simp only[Option.map_eq_some_iff]at hc
       obtain⟨ys,hys,hc⟩:=hc
       simp at hc;subst hc
       obtain⟨C8,rfl⟩:=Ar ha
       exact⟨rfl,EE hρ (by simp[ho]) (F5 (xs:=c.args.toList) (by simp[ho,Op.operands,Call.operands,hb]) (PK _ _ hys)) C8⟩)

theorem XH (hρ:Ev I ts ρ) {o:Oper}{ao:Bn}{lo Av:Nat}{h h':H}{v:Value}(hc:comp P o=some (.op ao)) (hl:ao.light=true) (hf:ao.fresh=false)
 (ha:BZ P lo Av ts h ao=some (v,h')):h'=h/\DJ P I ρ o v:=by
 have hc:=QY hc (by rintro rfl;simp[BZ]at ha)
 unfold KS at hc
 cases ho:o.op<;>rw[ho]at hc<;>simp only[Option.bind_eq_some_iff,Option.map_eq_some_iff,reduceCtorEq]at hc
 case move x=>
  obtain⟨x',hx,hc⟩:=hc
  simp at hc;subst hc
  simp[BZ]at ha
  obtain⟨rfl,rfl⟩:=ha
  exact⟨rfl,Vs hρ (.inl ho) hx⟩
 case assign x=>
  obtain⟨x',hx,hc⟩:=hc
  simp at hc;subst hc
  simp[BZ]at ha
  obtain⟨rfl,rfl⟩:=ha
  exact⟨rfl,Vs hρ (.inr ho) hx⟩
 case pick c a b=>
  obtain⟨c',hc',a',ha',b',hb',hc⟩:=hc
  simp at hc;subst hc
  obtain⟨C8,rfl⟩:=Ar ha
  exact⟨rfl,WW hρ ho hc' ha' hb' C8⟩
 case alloc=>obtain⟨_,_,hc⟩:=hc;simp at hc;subst hc;simp[Bn.fresh]at hf
 case box=>obtain⟨_,_,hc⟩:=hc;simp at hc;subst hc;simp[Bn.fresh]at hf
 case build t parts=>
  obtain⟨z,hz,hc⟩:=hc
  split at hc
  ·rename_i fields ht
   split at hc
   ·rename_i hall
    simp only[Option.map_eq_some_iff]at hc
    obtain⟨ps,hps,hc⟩:=hc
    simp at hc;subst hc
    obtain⟨C8,rfl⟩:=Ar ha
    simp only[Option.map_eq_some_iff]at C8
    obtain⟨l,hl',rfl⟩:=C8
    exact⟨rfl,NG hρ ho hz (.inl ⟨_,ht,hall,hps⟩) hl'⟩
   ·simp at hc
  ·rename_i n e ht
   simp only[Option.bind_eq_some_iff,Option.map_eq_some_iff]at hc
   obtain⟨s,hs,ps,hps,hc⟩:=hc
   simp at hc;subst hc
   obtain⟨C8,rfl⟩:=Ar ha
   simp only[Option.map_eq_some_iff]at C8
   obtain⟨l,hl',rfl⟩:=C8
   exact⟨rfl,NG hρ ho hz (.inr ⟨_,_,_,ht,hs,hps⟩) hl'⟩
  ·simp at hc
 case buildSlice t len parts=>
  split at hc
  ·simp only[Option.bind_eq_some_iff]at hc
   obtain⟨_,_,_,_,hc⟩:=hc
   split at hc
   ·simp only[Option.map_eq_some_iff]at hc
    obtain⟨_,_,hc⟩:=hc
    simp at hc;subst hc;simp[Bn.fresh]at hf
   ·simp at hc
  ·simp at hc
 case load t a=>
  obtain⟨a',_,hc⟩:=hc
  split at hc
  ·simp only[Option.map_eq_some_iff]at hc
   obtain⟨_,_,hc⟩:=hc
   simp at hc;subst hc;simp[Bn.light]at hl
  ·simp at hc;subst hc;simp[Bn.light]at hl
  ·simp at hc
 case store t a x=>obtain⟨_,_,_,_,_,_,hc⟩:=hc;simp at hc;subst hc;simp[Bn.light]at hl
 case nilCheck x=>
  obtain⟨x',hx,hc⟩:=hc
  simp at hc;subst hc
  obtain⟨C8,rfl⟩:=Ar ha
  exact⟨rfl,T7 hρ ho hx C8⟩
 case binOp op t x y t'=>
  obtain⟨sA,hb,hc⟩:=hc
  simp at hc;subst hc
  exact W8 hρ ho hb ha
 case unOp op t x=>
  obtain⟨x',hx,hc⟩:=hc
  split at hc<;>simp at hc<;>subst hc
  ·obtain⟨C8,rfl⟩:=Ar ha
   exact⟨rfl,Y0 hρ ho hx C8⟩
  ·obtain⟨C8,rfl⟩:=Ar ha
   exact⟨rfl,Y1 hρ ho hx C8⟩
  ·obtain⟨C8,rfl⟩:=Ar ha
   exact⟨rfl,EE hρ (by simp[ho]) (F5 (xs:=[x]) (by simp[ho,Op.operands]) (by simp[hx])) C8⟩
 case convert s d x=>
  obtain⟨x',hx,hc⟩:=hc
  split at hc
  ·simp at hc;subst hc
   obtain⟨C8,rfl⟩:=Ar ha
   exact⟨rfl,W7 hρ ho (by assumption) (by assumption) hx C8⟩
  ·split at hc
   ·simp at hc;subst hc;simp[Bn.light]at hl
   ·simp at hc
  ·simp at hc;subst hc
   obtain⟨C8,rfl⟩:=Ar ha
   exact⟨rfl,EE hρ (by simp[ho]) (F5 (xs:=[x]) (by simp[ho,Op.operands]) (by simp[hx])) C8⟩
 case makeInterface t x=>
  split at hc
  ·simp at hc
  ·rename_i d hd ht
   simp only[Option.map_eq_some_iff]at hc
   obtain⟨x',hx,hc⟩:=hc
   simp at hc;subst hc
   simp[BZ]at ha
   obtain⟨rfl,rfl⟩:=ha
   exact⟨rfl,WX hρ ho ht (fun m e=>hd m e) hx⟩
  ·simp at hc
 case makeFunc fn fs cs=>
  split at hc
  ·rename_i hfl
   simp only[Option.bind_eq_some_iff,Option.map_eq_some_iff]at hc
   obtain⟨f',hf',c',hc',hc⟩:=hc
   simp at hc;subst hc
   simp[BZ]at ha
   obtain⟨rfl,rfl⟩:=ha
   exact⟨rfl,W3 hρ ho hfl hf' hc'⟩
  ·simp at hc
 case makeMap t r=>cases r<;>simp at hc;subst hc;simp[Bn.fresh]at hf
 case makeSlice t l c=>
  split at hc
  ·simp only[Option.bind_eq_some_iff]at hc
   obtain⟨_,_,_,_,hc⟩:=hc
   split at hc
   ·simp only[Option.bind_eq_some_iff,Option.map_eq_some_iff]at hc
    obtain⟨_,_,_,_,hc⟩:=hc
    simp at hc;subst hc;simp[Bn.fresh]at hf
   ·simp at hc
  ·simp at hc
 case slice t x lo' hi mx=>
  obtain⟨x',hx,uz,hlo,hi',hhi,mx',hmx,hc⟩:=hc
  split at hc
  ·simp at hc
  ·rename_i hn
   have dY:mx'.isSome->hi'.isSome:=by cases mx'<;>cases hi'<;>simp_all
   split at hc
   ·rename_i n e ht
    simp only[Option.map_eq_some_iff]at hc
    obtain⟨s,hs,hc⟩:=hc
    simp at hc;subst hc
    obtain⟨C8,rfl⟩:=Ar ha
    exact⟨rfl,T6 hρ ho ht hs hx hlo hhi hmx dY C8⟩
   ·rename_i e ht
    simp only[Option.map_eq_some_iff]at hc
    obtain⟨s,hs,hc⟩:=hc
    simp at hc;subst hc
    obtain⟨C8,rfl⟩:=Ar ha
    exact⟨rfl,WV hρ ho ht hs hx hlo hhi hmx dY C8⟩
   ·simp at hc;subst hc
    obtain⟨C8,rfl⟩:=Ar ha
    refine⟨rfl,EE hρ (by simp[ho]) ?_ C8⟩
    intro y hy
    simp only[ho,Op.operands,Array.mem_append,Option.mem_toArray]at hy
    have hO:∀{o:Option Operand} {o':Option AP},GH o=some o'->∀z,o=some z->∃z',AJ z=some z':=by
     intro o o' h z hz
     subst hz
     simp only[GH,Option.map_eq_some_iff]at h
     obtain⟨z',hz', -⟩:=h
     exact⟨z',hz'⟩
    rcases hy with((hy|hy)|hy)|hy
    ·simp at hy;subst hy;exact⟨x',hx⟩
    ·exact hO hlo y hy
    ·exact hO hhi y hy
    ·exact hO hmx y hy
   ·simp at hc
 case fieldAddr s x f=>
  split at hc
  ·rename_i fields hs
   simp only[Option.bind_eq_some_iff]at hc
   obtain⟨fd,gL,n,hn,hc⟩:=hc
   split at hc
   ·simp at hc
   ·rename_i hn0
    simp only[Option.map_eq_some_iff]at hc
    obtain⟨x',hx,hc⟩:=hc
    simp at hc;subst hc
    obtain⟨C8,rfl⟩:=Ar ha
    exact⟨rfl,T9 hρ ho hs gL hn hn0 hx C8⟩
  ·simp at hc
 case field t x f=>
  split at hc
  ·rename_i fields hs
   simp only[Option.bind_eq_some_iff]at hc
   obtain⟨fd,gL,x',hx,hc⟩:=hc
   split at hc
   ·rename_i hag
    simp only[Option.map_eq_some_iff]at hc
    obtain⟨n,hn,hc⟩:=hc
    simp at hc;subst hc
    obtain⟨C8,rfl⟩:=Ar ha
    exact⟨rfl,Sf hρ ho hs gL hag hn hx C8⟩
   ·rename_i hag
    simp at hc;subst hc
    obtain⟨C8,rfl⟩:=Ar ha
    exact⟨rfl,Sg hρ ho hs gL hag hx C8⟩
   ·simp at hc
  ·simp at hc
 case indexAddr t x i=>
  obtain⟨x',hx,i',hi,hc⟩:=hc
  split at hc
  ·rename_i n e ht
   simp only[Option.map_eq_some_iff]at hc
   obtain⟨s,hs,hc⟩:=hc
   simp at hc;subst hc
   obtain⟨C8,rfl⟩:=Ar ha
   exact⟨rfl,T8 hρ ho ht hs hx hi C8⟩
  ·rename_i e ht
   simp only[Option.map_eq_some_iff]at hc
   obtain⟨s,hs,hc⟩:=hc
   simp at hc;subst hc
   obtain⟨C8,rfl⟩:=Ar ha
   exact⟨rfl,W6 hρ ho ht hs hx hi C8⟩
  ·simp at hc
 case index t x i=>
  obtain⟨x',hx,i',hi,hc⟩:=hc
  split at hc
  ·rename_i n e ht
   split at hc
   ·rename_i hag
    simp only[Option.map_eq_some_iff]at hc
    obtain⟨s,hs,hc⟩:=hc
    simp at hc;subst hc
    obtain⟨C8,rfl⟩:=Ar ha
    exact⟨rfl,W4 hρ ho ht hs hag hx hi C8⟩
   ·rename_i hag
    split at hc<;>simp at hc
    rename_i hs
    subst hc
    obtain⟨C8,rfl⟩:=Ar ha
    exact⟨rfl,W5 hρ ho ht hs hag hx hi C8⟩
   ·simp at hc
  ·simp at hc;subst hc
   obtain⟨C8,rfl⟩:=Ar ha
   exact⟨rfl,EE hρ (by simp[ho]) (F5 (xs:=[x,i]) (by simp[ho,Op.operands]) (by simp[hx,hi])) C8⟩
  ·simp at hc
 case extract x i=>
  obtain⟨x',hx,hc⟩:=hc
  simp at hc;subst hc
  obtain⟨C8,rfl⟩:=Ar ha
  exact⟨rfl,Qy hρ ho hx C8⟩
 case typeAssert x xt t ok=>
  split at hc
  ·split at hc
   ·simp at hc
   ·rename_i hok
    simp only[Option.map_eq_some_iff]at hc
    obtain⟨x',hx,hc⟩:=hc
    simp at hc;subst hc
    obtain⟨C8,rfl⟩:=Ar ha
    have hok:ok=false:=by simpa using hok
    subst hok
    exact⟨rfl,Sd hρ ho hx C8⟩
  ·rename_i d hd ht
   simp only[Option.bind_eq_some_iff,Option.map_eq_some_iff]at hc
   obtain⟨z,hz,x',hx,hc⟩:=hc
   simp at hc;subst hc
   obtain⟨C8,rfl⟩:=Ar ha
   exact⟨rfl,WU hρ ho ht (fun m e=>hd m e) hz hx C8⟩
  ·simp at hc
 case lookup t m k ok=>
  split at hc
  ·simp only[Option.bind_eq_some_iff,Option.map_eq_some_iff]at hc
   obtain⟨_,_,_,_,_,_,hc⟩:=hc
   simp at hc;subst hc;simp[Bn.light]at hl
  ·simp at hc
 case mapUpdate t m k v'=>
  split at hc
  ·simp only[Option.bind_eq_some_iff,Option.map_eq_some_iff]at hc
   obtain⟨_,_,_,_,_,_,hc⟩:=hc
   simp at hc;subst hc;simp[Bn.light]at hl
  ·simp at hc
 case insert t m k v'=>
  split at hc
  ·simp only[Option.bind_eq_some_iff,Option.map_eq_some_iff]at hc
   obtain⟨_,_,_,_,_,_,hc⟩:=hc
   simp at hc;subst hc;simp[Bn.light]at hl
  ·simp at hc
 case range=>
  split at hc
  ·simp only[Option.map_eq_some_iff]at hc
   obtain⟨_,_,hc⟩:=hc;simp at hc;subst hc;simp[Bn.light]at hl
  ·simp only[Option.map_eq_some_iff]at hc
   obtain⟨_,_,hc⟩:=hc;simp at hc;subst hc;simp[Bn.light]at hl
  ·simp at hc
 case next=>
  split at hc
  ·simp only[Option.map_eq_some_iff]at hc
   obtain⟨_,_,hc⟩:=hc;simp at hc;subst hc;simp[Bn.light]at hl
  ·simp at hc
 case entry=>obtain⟨_,_,hc⟩:=hc;simp at hc;subst hc;simp[Bn.light]at hl
 case mapEntry=>
  split at hc
  ·simp only[Option.bind_eq_some_iff,Option.map_eq_some_iff]at hc
   obtain⟨_,_,_,_,_,_,hc⟩:=hc;simp at hc;subst hc;simp[Bn.light]at hl
  ·simp at hc
 case entryStore=>obtain⟨_,_,_,_,_,_,hc⟩:=hc;simp at hc;subst hc;simp[Bn.light]at hl
 case call c=>exact Uc hρ ho hc hl hf ha
 case panic x=>simp at hc;subst hc;simp[BZ]at ha

end
end AE

/- What it means that an abstract heap lies in a world; new rows, loads, stores. -/
namespace AE
open Go Go.RowKit

def B0 (I:Al) (e:MapEntry):MapEntry:=⟨ren I e.key,ren I e.val,e.born⟩
def eN (I:Al) (e:MapEntry):Prop:=In I e.key/\In I e.val

def C1:OJ->Option Code
 |.none=>none
 |.ret=>some .ret
 |.exit id=>some (.exit id)

def Bv (I:Al) (n:Nat) (ts:Ts) (tmps:Array Value):Prop:=tmps.size=n/\∀i,tmps.getD i undef=ren I (ts i)/\In I (ts i)

def Bw (I:Al) (r:Nat) (w:World):A9->Prop
 |.cells c e=>BH I c/\∃b,I.at_ r none=some (b,0)/\I.base<=b/\w.heap[b]? =some (.cells ⟨Ah I c⟩ e (0,0))
 |.ro c=>BH I c/\∃b d,I.at_ r none=some (b,d)/\∀i v,c[i]? =some v->w.cell? ⟨b,d+i,none⟩=some (ren I v)
 |.grow c e sz lens valid=>BH I c/\lens.head? =some c.length/\(∀n∈lens,n<=c.length)/\(∀g p,I.at_ r (some g)=some p->g<lens.length)/\(∀g g' b d d',valid<=g->valid<=g'->I.at_ r (some g)=some (b,d)->I.at_ r (some g')=some (b,d')->d=d')/\∀g,valid<=g->g<lens.length->∃b d C,I.at_ r (some g)=some (b,d)/\I.base<=b/\w.heap[b]? =some (.cells C e (0,0))/\
  d+Ea lens g<=C.size/\C.size=d+I.cap r g*sz/\∀i,i<Ea lens g->C[d+i]? =(Ah I c)[i]?
 |.map es clock=>(∀e∈es,eN I e)/\∃b,I.at_ r none=some (b,0)/\I.base<=b/\w.heap[b]? =some (.map ⟨es.map (B0 I)⟩ clock)
 |.iter m since seen c0=>∃b bm,I.at_ r none=some (b,0)/\I.base<=b/\I.at_ m none=some (bm,0)/\w.heap[b]? =some (.mapIter (some bm) since ⟨seen⟩ c0)
 |.Ki s pos=>∃b,I.at_ r none=some (b,0)/\I.base<=b/\w.heap[b]? =some (.stringIter s pos)
 |.loop l=>∃b tmps db fn,I.at_ r none=some (b,0)/\I.base<=b/\Bv I l.size l.tmps tmps/\
  w.heap[b]? =some (.loop {state:=l.state,pending:=C1 l.pend,fn,tmps,params:=⟨l.params⟩,assign:=l.CB,body:=l.body,defers:=db})
 |.defers=>∃b,I.at_ r none=some (b,0)/\I.base<=b/\w.heap[b]? =some (.deferred (some []))
 |.gone=>True

def I7 (n:Nat) (w:World):Prop:=∀x∈PW,x.1<n/\∃e fr,w.heap[x.1]? =some (.cells ⟨x.2⟩ e fr)
theorem I7.same {n:Nat}{w w':World}(k:I7 n w) (h:∀b,b<n->w'.heap[b]? =w.heap[b]?):I7 n w':=fun x hx=>let⟨h1,e,fr,h2⟩:=k x hx;⟨h1,e,fr,(h _ h1).trans h2⟩

structure Rel (I:Al) (h:H) (w:World):Prop where
 rows:∀r row,h.get r=some row->I.dom r->Bw I r w row
 lt:∀r,I.dom r->r<h.next
 size:∀r s b d,I.at_ r s=some (b,d)->b<w.heap.size
 base:I.base<=w.heap.size
 tabs:I7 I.base w
 inj:∀r r' s s' b d d',I.at_ r s=some (b,d)->I.at_ r' s'=some (b,d')->I.base<=b->r=r'
 clean:∀r,h.next<=r->h.get r=none

structure Ext (I:Al) (lo:Nat) (w w':World):Prop where
 os:w'.os=w.os
 tape:w'.tape=w.tape
 output:w'.output=w.output
 size:w.heap.size<=w'.heap.size
 block:∀b,b<w.heap.size->(∀r s d,I.at_ r s=some (b,d)->I.base<=b->r<lo)->w'.heap[b]? =w.heap[b]?

theorem Ext.refl (I:Al) (lo:Nat) (w:World):Ext I lo w w:=⟨rfl,rfl,rfl,Nat.le_refl _,fun _ _ _=>rfl⟩
structure BA (I J:Al) (w:World):Prop where
 le:Le I J
 new:∀r s b d,J.at_ r s=some (b,d)->I.at_ r s=some (b,d)\/w.heap.size<=b\/(∃s' d',I.at_ r s'=some (b,d'))
theorem BA.refl (I:Al) (w:World):BA I I w:=⟨Le.refl I,fun _ _ _ _ h=>.inl h⟩
theorem BA.trans {I J K:Al}{w w':World}(h:BA I J w) (k:BA J K w') (hs:w.heap.size<=w'.heap.size):BA I K w:=by
 refine⟨h.le.trans k.le,fun r s b d e=>?_⟩
 rcases k.new r s b d e with e|e|⟨s',d',e⟩
 ·exact h.new r s b d e
 ·exact .inr (.inl (by omega))
 ·rcases h.new r s' b d' e with e|e|e
  ·exact .inr (.inr ⟨_,_,e⟩)
  ·exact .inr (.inl e)
  ·exact .inr (.inr e)
theorem Ext.trans {I J:Al}{lo:Nat}{w w' w'':World}(h:Ext I lo w w') (g:BA I J w) (k:Ext J lo w' w''):Ext I lo w w'':=by
 refine⟨k.os.trans h.os,k.tape.trans h.tape,k.output.trans h.output,Nat.le_trans h.size k.size,fun b hb hr=>?_⟩
 rw[k.block b (by have:=h.size;omega) (fun r s d e hbase=>?_),h.block b hb hr]
 rw[g.le.base]at hbase
 rcases g.new r s b d e with e|e|⟨s',d',e⟩
 ·exact hr r s d e hbase
 ·omega
 ·exact hr r s' d' e hbase
theorem Ext.mono {I:Al}{lo lo':Nat}{w w':World}(h:Ext I lo w w') (hl:lo'<=lo):Ext I lo' w w':=
 ⟨h.os,h.tape,h.output,h.size,fun b hb hr=>h.block b hb (fun r s d e k=>Nat.lt_of_lt_of_le (hr r s d e k) hl)⟩


theorem Bv.le {I J:Al}(h:Le I J) {n:Nat}{ts:Ts}{tmps:Array Value}(k:Bv I n ts tmps):Bv J n ts tmps:=
 ⟨k.1,fun i=>⟨by rw[(k.2 i).1,(h.ren _ (k.2 i).2).1],(h.ren _ (k.2 i).2).2⟩⟩
theorem eN.le {I J:Al}(h:Le I J) {e:MapEntry}(k:eN I e):eN J e/\B0 J e=B0 I e:=
 ⟨⟨(h.ren _ k.1).2,(h.ren _ k.2).2⟩,by simp[B0,(h.ren _ k.1).1,(h.ren _ k.2).1]⟩

def dK (I:Al) (r b:Nat):Prop:=∃s d,I.at_ r s=some (b,d)

theorem Bw.le {I J:Al}(h:Le I J) {r:Nat}{w w':World}{row:A9}(k:Bw I r w row) (hJ:∀s p,J.at_ r s=some p->I.at_ r s=some p) (hb:∀b,dK I r b->w'.heap[b]? =w.heap[b]?):Bw J r w' row:=by
 cases row with
 | cells c e=>
   obtain⟨i,b,e1,e2,e3⟩:=k
   obtain⟨er,ir⟩:=h.Ah c i
   exact⟨ir,b,h.at_ _ _ _ e1,by rw[h.base];exact e2,by rw[hb b ⟨_,_,e1⟩,e3,er]⟩
 | ro c=>
   obtain⟨i,b,d,e1,e2⟩:=k
   refine⟨(h.Ah c i).2,b,d,h.at_ _ _ _ e1,fun j v hj=>?_⟩
   rw[(h.ren v (Eb i hj)).1,<-e2 j v hj]
   simp only[World.cell?,hb b ⟨_,_,e1⟩]
 | grow c e sz lens valid=>
   obtain⟨i,h1,h2,hgen,hof,h3⟩:=k
   obtain⟨er,ir⟩:=h.Ah c i
   refine⟨ir,h1,h2,fun g p e=>hgen g p (hJ _ _ e),fun g g' b d d' v v' e e'=>hof g g' b d d' v v' (hJ _ _ e) (hJ _ _ e'),fun g hg hl=>?_⟩
   obtain⟨b,d,C,e1,e2,e3,e4,e5,e6⟩:=h3 g hg hl
   refine⟨b,d,C,h.at_ _ _ _ e1,by rw[h.base];exact e2,by rw[hb b ⟨_,_,e1⟩,e3],e4,?_,by rw[er];exact e6⟩
   rw[h.cap _ _ _ e1];exact e5
 | map es clock=>
   obtain⟨i,b,e1,e2,e3⟩:=k
   refine⟨fun e he=>((i e he).le h).1,b,h.at_ _ _ _ e1,by rw[h.base];exact e2,?_⟩
   rw[hb b ⟨_,_,e1⟩,e3]
   congr 3
   exact List.map_congr_left fun e he=>((i e he).le h).2.symm
 | iter m since seen c0=>
   obtain⟨b,bm,e1,e2,e3,e4⟩:=k
   exact⟨b,bm,h.at_ _ _ _ e1,by rw[h.base];exact e2,h.at_ _ _ _ e3,by rw[hb b ⟨_,_,e1⟩,e4]⟩
 | Ki s p=>
   obtain⟨b,e1,e2,e3⟩:=k
   exact⟨b,h.at_ _ _ _ e1,by rw[h.base];exact e2,by rw[hb b ⟨_,_,e1⟩,e3]⟩
 | loop l=>
   obtain⟨b,tmps,db,fn,e1,e2,e3,e5⟩:=k
   exact⟨b,tmps,db,fn,h.at_ _ _ _ e1,by rw[h.base];exact e2,e3.le h,by rw[hb b ⟨_,_,e1⟩,e5]⟩
 | defers=>
   obtain⟨b,e1,e2,e3⟩:=k
   exact⟨b,h.at_ _ _ _ e1,by rw[h.base];exact e2,by rw[hb b ⟨_,_,e1⟩,e3]⟩
 |gone=>trivial

end AE

/- New rows, loads and stores: abstract and in a world. -/
namespace AE
open Go Go.RowKit

def Al.plus (I:Al) (r:Nat) (s:Option Nat) (b c:Nat) (d:Nat:=0):Al:=
 ⟨fun r' s'=>if r'=r/\s'=s then some (b,d)else I.at_ r' s',fun r' g=>if r'=r/\s=some g then c else I.cap r' g,I.base⟩

theorem Al.Ax (I:Al) (r:Nat) (s:Option Nat) (b c:Nat) {d:Nat}:(I.plus r s b c d).at_ r s=some (b,d):=by simp[Al.plus]
theorem Al.Ay {I:Al}{r:Nat}{s:Option Nat}{b c d r':Nat}{s':Option Nat}(h:¬(r'=r/\s'=s)):(I.plus r s b c d).at_ r' s'=I.at_ r' s':=by simp only[Al.plus,if_neg h]
theorem Le.plus {I:Al}{r:Nat}{s:Option Nat}{b c d:Nat}(h:I.at_ r s=none):Le I (I.plus r s b c d):=by
 refine⟨fun r' s' p e=>?_,fun r' g p e=>?_,rfl⟩
 ·rw[Al.Ay];exact e
  rintro⟨rfl,rfl⟩
  rw[h]at e;cases e
 ·simp only[Al.plus]
  rw[if_neg]
  rintro⟨rfl,rfl⟩
  rw[h]at e;cases e
theorem Al.BI {I:Al}{r:Nat}{s:Option Nat}{b c d r':Nat}(h:(I.plus r s b c d).dom r'):I.dom r'\/r'=r:=by
 obtain⟨s',p,e⟩:=h
 by_cases hr:r'=r
 ·exact .inr hr
 ·rw[Al.Ay (fun h=>hr h.1)]at e
  exact .inl ⟨s',p,e⟩
theorem Dh {I:Al}{r:Nat}(h:¬I.dom r) (s:Option Nat):I.at_ r s=none:=by
 cases e:I.at_ r s with
 |none=>rfl
 |some p=>exact absurd ⟨s,p,e⟩ h

theorem heap_alloc (w:World) (o:Obj):(w.alloc o).heap[w.heap.size]? =some o:=by show(w.heap.push o)[w.heap.size]? =_;simp
theorem heap_alloc_old (w:World) (o:Obj) {b:Nat}(h:b<w.heap.size):(w.alloc o).heap[b]? =w.heap[b]? :=by
 show(w.heap.push o)[b]? =_
 rw[Array.getElem?_push,if_neg (by omega)]
theorem Ext.alloc (I:Al) (lo:Nat) (w:World) (o:Obj):Ext I lo w (w.alloc o):=by
 refine⟨rfl,rfl,rfl,by simp,fun b hb _=>heap_alloc_old w o hb⟩

theorem BA.plus {I:Al}{w:World}{r:Nat}{s:Option Nat}{b c d:Nat}(h:I.at_ r s=none) (hb:w.heap.size<=b\/∃s' d',I.at_ r s'=some (b,d')):BA I (I.plus r s b c d) w:=by
 refine⟨Le.plus h,fun r' s' b' d e=>?_⟩
 by_cases hr:r'=r/\s'=s
 ·obtain⟨rfl,rfl⟩:=hr
  rw[Al.Ax]at e
  simp at e
  obtain⟨rfl,rfl⟩:=e
  exact .inr hb
 ·rw[Al.Ay hr]at e
  exact .inl e

theorem Al.Er {I:Al}{r:Nat}{s:Option Nat}{b c d lo:Nat}(hr:lo<=r):∀r' s' p,r'<lo->(I.plus r s b c d).at_ r' s'=some p->I.at_ r' s'=some p:=fun r' s' p hl e=>by
 rwa [Al.Ay (by omega)]at e

theorem Rel.new {I:Al}{h:H}{w:World}(k:Rel I h w) {r:Nat}(hn:¬I.dom r) (hr:r<h.next) (s:Option Nat) (c:Nat) (o:Obj) {row:A9}(hrow:Bw (I.plus r s w.heap.size c) r (w.alloc o) row):
 Rel (I.plus r s w.heap.size c) (h.put r row) (w.alloc o):=by
 have hle:Le I (I.plus r s w.heap.size c):=Le.plus (Dh hn s)
 refine⟨fun r' row' e d=>?_,fun r' d=>?_,fun r' s' b d e=>?_,?_,?_,?_,?_⟩
 ·simp only[H.put]at e
  split at e
  ·rename_i hrr
   subst hrr
   simp at e;subst e;exact hrow
  ·rename_i hrr
   rcases Al.BI d with d|d
   ·refine(k.rows r' row' e d).le hle (fun s' p e'=>by rwa [Al.Ay (fun h=>hrr h.1)]at e') (fun b d5=>by obtain⟨s',d',hb⟩:=d5;exact heap_alloc_old w o (k.size _ _ _ _ hb))
   ·exact absurd d hrr
 ·rcases Al.BI d with d|rfl
  ·exact k.lt r' d
  ·exact hr
 ·by_cases hrs:r'=r/\s'=s
  ·obtain⟨rfl,rfl⟩:=hrs
   rw[Al.Ax]at e
   simp at e;simp[<-e.1]
  ·rw[Al.Ay hrs]at e
   have:=k.size _ _ _ _ e
   simp;omega
 ·have:=k.base;simp[Al.plus];omega
 ·have:=k.base;exact k.tabs.same fun b hb=>heap_alloc_old w o (by omega)
 ·intro r1 r2 s1 s2 b d d' e1 e2 hb
  by_cases h1:r1=r/\s1=s
  ·by_cases h2:r2=r/\s2=s
   ·rw[h1.1,h2.1]
   ·rw[Al.Ay h2]at e2
    obtain⟨rfl,rfl⟩:=h1
    rw[Al.Ax]at e1
    have:=k.size _ _ _ _ e2
    simp at e1;omega
  ·rw[Al.Ay h1]at e1
   by_cases h2:r2=r/\s2=s
   ·obtain⟨rfl,rfl⟩:=h2
    rw[Al.Ax]at e2
    have:=k.size _ _ _ _ e1
    simp at e2;omega
   ·rw[Al.Ay h2]at e2
    exact k.inj _ _ _ _ _ _ _ e1 e2 hb
 ·intro r' hr'
  simp only[H.put]at hr'⊢
  rw[if_neg (by omega)]
  exact k.clean r' hr'


theorem VJ {c:List Value}{lens:List Nat}(h:∀n∈lens,n<=c.length) (g:Nat):Ea lens g<=c.length:=by
 unfold Ea
 cases e:lens[lens.length - 1 - g]? with
 |none=>simp
 |some n=>simpa using h n (List.mem_of_getElem? e)

theorem HE {I:Al}{h:H}{w:World}{a:Addr}{n:Nat}{l:List Value}{row:A9}(hg:h.get a.block=some row) (k:Bw I a.block w row) (ha:Jt I a) (hl:h.Az a n=some l):
 ∃b,Cx I a=some b/\b.spot=none/\BH I l/\l.length=n/\∀j v,l[j]? =some v->w.cell? (b.add j)=some (ren I v):=by
 obtain⟨p,hp⟩:=ha
 refine⟨⟨p.1,p.2+a.off,none⟩,by simp only[Cx,hp],rfl,?_⟩
 have hadd:∀j,(⟨p.1,p.2+a.off,none⟩:Addr).add j=⟨p.1,p.2+a.off+j,none⟩:=fun j=>by
  unfold Addr.add;split<;>simp_all
 simp only[hadd]
 simp only[H.Az,hg,Option.bind_some]at hl
 have fin:∀(c:List Value) (w':Nat->Option Value),BH I c->cut c a.off n=some l->(∀i v,c[i]? =some v->i<a.off+n->w' i=some (ren I v))->
  BH I l/\l.length=n/\∀j v,l[j]? =some v->w' (a.off+j)=some (ren I v):=by
  intro c w' hi hc hw
  refine⟨MP hi hc,?_,fun j v hj=>?_⟩
  ·obtain⟨h1,rfl⟩:=Gb hc
   simp;omega
  ·obtain⟨h1,rfl⟩:=Gb hc
   rw[List.getElem?_take]at hj
   split at hj
   ·rw[List.getElem?_drop]at hj
    exact hw _ v hj (by omega)
   ·simp at hj
 cases row with
 | cells c e=>
   cases hs:a.spot with
   |some g=>rw[hs]at hl;simp[Br]at hl
   | none=>
     rw[hs]at hl hp
     obtain⟨i,b,e1,e2,e3⟩:=k
     rw[hp]at e1;simp at e1;subst e1
     obtain⟨f1,f2,f3⟩:=fin c (fun i=>w.cell? ⟨b,i,none⟩) i hl (fun i v hv _=>by
      simp only[World.cell?,e3]
      simp[BO,hv])
     exact⟨f1,f2,fun j v hj=>by simpa using f3 j v hj⟩
 | ro c=>
   cases hs:a.spot with
   |some g=>rw[hs]at hl;simp[Br]at hl
   | none=>
     rw[hs]at hl hp
     obtain⟨i,b,d,e1,e2⟩:=k
     rw[hp]at e1;simp at e1;subst e1
     obtain⟨f1,f2,f3⟩:=fin c (fun i=>w.cell? ⟨b,d+i,none⟩) i hl (fun i v hv _=>e2 i v hv)
     exact⟨f1,f2,fun j v hj=>by simpa[Nat.add_assoc]using f3 j v hj⟩
 | grow c e sz lens valid=>
   cases hs:a.spot with
   |none=>rw[hs]at hl;simp[Br]at hl
   | some g=>
     rw[hs]at hl hp
     simp only[Br]at hl
     split at hl
     ·rename_i hc
      obtain⟨i,h1,h2,hgen, -,h3⟩:=k
      obtain⟨b,d,C,e1,e2,e3,e4,e5,e6⟩:=h3 g hc.1 hc.2.1
      rw[hp]at e1;simp at e1;subst e1
      obtain⟨f1,f2,f3⟩:=fin c (fun i=>w.cell? ⟨b,d+i,none⟩) i hl (fun i v hv hi=>by
       simp only[World.cell?,e3]
       simp[e6 i (by omega),BO,hv])
      exact⟨f1,f2,fun j v hj=>by simpa[Nat.add_assoc]using f3 j v hj⟩
     ·simp at hl
 |map es cl=>simp[Br]at hl
 |iter m s l c=>simp[Br]at hl
 |Ki s p=>simp[Br]at hl
 |loop l=>simp[Br]at hl
 |defers=>simp[Br]at hl
 |gone=>simp[Br]at hl

theorem Gs {P:Program}{I:Al}{w:World}{b:Addr}{l:List Value}(h:∀j v,l[j]? =some v->w.cell? (b.add j)=some (ren I v)):
 (loadCells b l.length).run P w= .ok ⟨Ah I l⟩ w:=by
 have:=run_loadCells_list (P:=P) w b (Ah I l) (fun j v hj=>by
  rw[BO,Option.map_eq_some_iff]at hj
  obtain⟨u,hu,rfl⟩:=hj
  exact h j u hu)
 simpa using this

section
variable {P:Program}{I:Al}{ts:Ts}{ρ:Operand->Value}

theorem OZ (hρ:Ev I ts ρ) {o:Oper}{t:TypeId}{x:Operand}{x':AP}{h:H}{w:World}{v:Value}(ho:o.op= .load t x) (ht:BU P t=some false) (hx:AJ x=some x')
 (hv:GK h (ev ts x')=some v) (k:∀a row,ev ts x'= .pointer (some a)->h.get a.block=some row->Bw I a.block w row):In I v/\(execOp ρ o).run P w= .ok (.value (ren I v)) w:=by
 obtain⟨e,i⟩:=hρ x x' hx
 unfold GK at hv
 split at hv
 ·rename_i a ha
  rw[ha]at e i
  simp only[Option.bind_eq_some_iff]at hv
  obtain⟨l,hl,hv⟩:=hv
  cases hg:h.get a.block with
  |none=>simp[H.Az,hg]at hl
  | some row=>
    obtain⟨b,hb,hbs,il,hlen,hcell⟩:=HE hg (k a row ha hg) (by simpa[In]using i) hl
    have h0:l[0]? =some v:=by simpa using hv
    have hc:=hcell 0 v h0
    have hb0:b.add 0=b:=rfl
    rw[hb0]at hc
    refine⟨Eb il h0,?_⟩
    simp[execOp,ho,e,ren,hb,Instr.loadAt,Instr.sureAddr,loadVar,Hz ht,hc]
 ·simp at hv
theorem OY (hρ:Ev I ts ρ) {o:Oper}{t:TypeId}{n:Nat}{x:Operand}{x':AP}{h:H}{w:World}{v:Value}(ho:o.op= .load t x) (ht:BU P t=some true) (hn:sizeT P t=some n) (hx:AJ x=some x')
 (hv:GJ n h (ev ts x')=some v) (k:∀a row,ev ts x'= .pointer (some a)->h.get a.block=some row->Bw I a.block w row):In I v/\(execOp ρ o).run P w= .ok (.value (ren I v)) w:=by
 obtain⟨e,i⟩:=hρ x x' hx
 unfold GJ at hv
 split at hv
 ·rename_i a ha
  rw[ha]at e i
  simp only[Option.map_eq_some_iff]at hv
  obtain⟨l,hl,rfl⟩:=hv
  cases hg:h.get a.block with
  |none=>simp[H.Az,hg]at hl
  | some row=>
    obtain⟨b,hb,hbs,il,hlen,hcell⟩:=HE hg (k a row ha hg) (by simpa[In]using i) hl
    have hc:=Gs (P:=P) hcell
    rw[hlen]at hc
    refine⟨by simpa only[In]using il,?_⟩
    simp[execOp,ho,e,ren,hb,Instr.loadAt,Instr.sureAddr,loadVar,Hz ht,Bu hn,hc]
 ·simp at hv


def Ou (P:Program) (I:Al) (ρ:Operand->Value) (o:Oper) (Av:Nat) (h h':H) (v:Value):Prop:=
 ∃row,h'=h.put Av row/\∀w,I.base<=w.heap.size->¬I.dom Av->∃ob,(execOp ρ o).run P w= .ok (.value (ren (I.plus Av none w.heap.size 0) v)) (w.alloc ob)/\
  In (I.plus Av none w.heap.size 0) v/\Bw (I.plus Av none w.heap.size 0) Av (w.alloc ob) row

theorem Gz {Av:Nat}{w:World}{c:List Value}{e:TypeId}(hc:BH I c) (hb:I.base<=w.heap.size) (hn:¬I.dom Av):
 Bw (I.plus Av none w.heap.size 0) Av (w.alloc (.cells ⟨Ah I c⟩ e)) (.cells c e):=by
 have hle:Le I (I.plus Av none w.heap.size 0):=Le.plus (Dh hn none)
 obtain⟨e1,i1⟩:=hle.Ah c hc
 exact⟨i1,w.heap.size,Al.Ax ..,hb,by rw[heap_alloc,e1]⟩
theorem MA {Av b:Nat}:ren (I.plus Av none b 0) (.pointer (some ⟨Av,0,none⟩))= .pointer (some ⟨b,0,none⟩)/\In (I.plus Av none b 0) (.pointer (some ⟨Av,0,none⟩)):=by
 simp only[ren,In,Cx,Jt,Al.Ax]
 exact⟨by simp,_,rfl⟩
theorem Ji {Av b l c:Nat}(h:l<=c) (hf:c<far):ren (I.plus Av none b 0) (.slice (some ⟨Av,0,none⟩) l c)= .slice (some ⟨b,0,none⟩) l c/\In (I.plus Av none b 0) (.slice (some ⟨Av,0,none⟩) l c):=by
 rw[BD hf,B8 hf]
 simp only[Cx,Jt,Al.Ax,Bq,C6]
 exact⟨by simp,⟨_,rfl⟩,h⟩

theorem SH {o:Oper}{e:TypeId}{z:Value}{Av:Nat}{h h':H}{v:Value}(ho:o.op= .alloc e) (hz:DT P e=some z) (ha:G2 Av e (Aq z) h=some (v,h')):Ou P I ρ o Av h h' v:=by
 have VD:=(BG hz default).2
 have hi:BH I (Aq z):=Gj (Bi I z VD).2
 have hrz:Ah I (Aq z)=Aq z:=by rw[<-Gd,(Bi I z VD).1]
 simp[G2]at ha
 obtain⟨rfl,rfl⟩:=ha
 refine⟨_,rfl,fun w hb hn=>⟨.cells ⟨Ah I (Aq z)⟩ e,?_,MA.2,Gz hi hb hn⟩⟩
 rw[MA.1,hrz]
 simp[execOp,ho,Instr.alloc,(BG hz w).1,newVar,newRow,C4]
theorem Xo (hρ:Ev I ts ρ) {o:Oper}{e:TypeId}{x:Operand}{x':AP}{Av:Nat}{h h':H}{v:Value}(ho:o.op= .box e x) (hx:AJ x=some x') (ha:G2 Av e (Aq (ev ts x')) h=some (v,h')):Ou P I ρ o Av h h' v:=by
 obtain⟨e1,i1⟩:=hρ x x' hx
 simp[G2]at ha
 obtain⟨rfl,rfl⟩:=ha
 refine⟨_,rfl,fun w hb hn=>⟨.cells ⟨Ah I (Aq (ev ts x'))⟩ e,?_,MA.2,Gz (Gj i1) hb hn⟩⟩
 rw[MA.1]
 simp[execOp,ho,e1,Instr.box,newVar,newRow,C4,Gd]
theorem Jh {z:List Value}(hz:B7 z=true):∀n,B7 (Gk z n)=true
 |0=>rfl
 | n+1=>by
   have:∀a b:List Value,B7 a=true->B7 b=true->B7 (a++b)=true:=by
    intro a b h1 h2
    induction a with
    |nil=>exact h2
    |cons x xs ih=>simp only[List.cons_append,B7,Bool.and_eq_true]at*;exact⟨h1.1,ih h1.2⟩
   exact this _ _ hz (Jh hz n)
theorem Iu (z:List Value):∀n,(Gk z n).length=n*z.length
 |0=>by simp[Gk]
 |n+1=>by simp[Gk,Iu z n,Nat.add_mul];omega
theorem RP {z:List Value}:∀(n i:Nat),i<n*z.length->(Gk z n)[i]? =z[i%z.length]?
 |0,i,h=>by simp at h
 | n+1,i,h=>by
   have hz:0<z.length:=by
    rcases Nat.eq_zero_or_pos z.length with h0|h0
    ·rw[h0]at h;simp at h
    ·exact h0
   simp only[Gk,List.getElem?_append]
   by_cases hi:i<z.length
   ·rw[if_pos hi,Nat.mod_eq_of_lt hi]
   ·have h':i<n*z.length+1*z.length:=by rw[<-Nat.add_mul];exact h
    rw[if_neg hi,RP n _ (by omega)]
    congr 1
    exact(Nat.mod_eq_sub_mod (by omega)).symm
theorem Qj (z:List Value) (n m:Nat) (hm:m=n*z.length):(Array.range m).map (fun i=>(⟨z⟩:Array Value)[i%(⟨z⟩:Array Value).size]!)=⟨Gk z n⟩:=by
 apply Array.ext'
 simp only[Array.toList_map,Array.toList_range]
 apply List.ext_getElem?
 intro i
 simp only[List.getElem?_map]
 by_cases hi:i<m
 ·have hz:0<z.length:=by
   rcases Nat.eq_zero_or_pos z.length with h0|h0
   ·rw[hm,h0]at hi;simp at hi
   ·exact h0
  rw[RP n i (by omega)]
  have hlt:=Nat.mod_lt i hz
  simp[hi,hlt]
 ·simp[hi,List.getElem?_eq_none (show(Gk z n).length<=i by rw[Iu];omega)]

theorem QJ (hρ:Ev I ts ρ) {o:Oper}{t e:TypeId}{len:Nat}{parts:Array (Nat × Operand)}{ie:TypeInfo}{z:Value}{ps:List (Nat × Nat × AP)}{Av:Nat}{h h':H}{v:Value}(ho:o.op= .buildSlice t len parts)
 (ht:P.underlying t=some (.slice e)) (hi:P.info? e=some ie) (hz:DT P e=some z) (wo:len*ie.size<=2^24) (h0:ie.size≠0) (hzl:(Aq z).length=ie.size)
 (hps:GN (fun i=>some (i*ie.size,ie.size)) parts.toList=some ps) (ha:(E5 ts (Gk (Aq z) len) ps).map (fun cs=>(Value.slice (some ⟨Av,0,none⟩) len len,h.put Av (.cells cs e)))=some (v,h')):Ou P I ρ o Av h h' v:=by
 have VD:=(BG hz default).2
 have k9:B7 (Aq z)=true:=by
  cases z<;>simp_all[Aq,B7,flat]
 obtain⟨er,ir⟩:=CN I _ (Jh k9 len)
 simp only[Option.map_eq_some_iff,Prod.mk.injEq]at ha
 obtain⟨cs,hcs,rfl,rfl⟩:=ha
 obtain⟨f1,f2⟩:=Km hρ _ _ _ _ _ hps hcs ir
 rw[er]at f1
 have hs:sizeT P e=some ie.size:=by simp[sizeT,hi]
 have KL:len<far:=by
  have:len*1<=len*ie.size:=Nat.mul_le_mul_left _ (by omega)
  unfold far
  omega
 refine⟨_,rfl,fun w hb hn=>⟨.cells ⟨Ah I cs⟩ e,?_,(Ji (Nat.le_refl _) KL).2,Gz f2 hb hn⟩⟩
 rw[(Ji (Nat.le_refl _) KL).1]
 have qN:¬(len*ie.size>16777216):=by omega
 have hrep:=Qj (Aq z) len (len*ie.size) (by rw[hzl])
 by_cases hl:len=0
 ·subst hl
  simp only[Gk]at f1
  have hr0:∀f:Nat->Value,Array.map f (Array.range 0)=⟨[]⟩:=fun f=>by simp[Array.range]
  simp[execOp,ho,Instr.buildSlice,run_underlying ht,Bu hs,hr0,newRow]at f1⊢
  simp[f1]
 ·have hne:¬(len*ie.size=0):=by
   rw[Nat.mul_eq_zero];omega
  simp only[execOp,ho,Instr.buildSlice,Sem.run_bind,run_underlying ht,Result.andThen_ok,Bu hs]
  rw[if_neg (by simpa using qN)]
  simp only[hne,if_false,Sem.run_bind,(BG hz w).1,Result.andThen_ok,Sem.run_pure,C4]
  rw[hrep]
  simp[f1,newRow]
theorem SG {o:Oper}{t:TypeId}{Av:Nat}{h h':H}{v:Value}(ho:o.op= .makeMap t none) (ha:some (Value.map (some Av),h.put Av (.map [] 0))=some (v,h')):Ou P I ρ o Av h h' v:=by
 simp at ha
 obtain⟨rfl,rfl⟩:=ha
 refine⟨_,rfl,fun w hb hn=>⟨.map #[] 0,?_,?_,?_⟩⟩
 ·simp[execOp,ho,Instr.makeMap,ren,Al.blk,Al.Ax]
 ·simp only[In,eM];exact⟨_,Al.Ax ..⟩
 ·exact⟨by simp,w.heap.size,Al.Ax ..,hb,by rw[heap_alloc];rfl⟩
theorem OH (hρ:Ev I ts ρ) {o:Oper}{t e:TypeId}{x y:Operand}{x' y':AP}{ie:TypeInfo}{z:Value}{Av:Nat}{h h':H}{v:Value}(ho:o.op= .makeSlice t x y) (ht:P.underlying t=some (.slice e)) (hi:P.info? e=some ie)
 (hz:DT P e=some z) (h0:ie.size≠0) (hzl:(Aq z).length=ie.size) (hx:AJ x=some x') (hy:AJ y=some y')
 (ha:GR Av (Aq z) ie.bytes e h (Cv (ev ts x')) (Cv (ev ts y'))=some (v,h')):Ou P I ρ o Av h h' v:=by
 have VD:=(BG hz default).2
 have k9:B7 (Aq z)=true:=by
  cases z<;>simp_all[Aq,B7,flat]
 obtain⟨e1, -⟩:=hρ x x' hx
 obtain⟨e2, -⟩:=hρ y y' hy
 unfold GR at ha
 split at ha
 ·rename_i l c hl hc
  split at ha<;>simp at ha
  rename_i hb
  obtain⟨rfl,rfl⟩:=ha
  obtain⟨k1,r1⟩:=Fa (I:=I) hl
  obtain⟨k2,r2⟩:=Fa (I:=I) hc
  rw[r1]at e1
  rw[r2]at e2
  obtain⟨er,ir⟩:=CN I _ (Jh k9 c)
  have hs:sizeT P e=some ie.size:=by simp[sizeT,hi]
  have hbig:c<2^40/\ie.bytes*c<=2^40:=by
   have h1:=hb.2
   have h2:(c+1) * (ie.bytes+1)=ie.bytes*c+c+ie.bytes+1:=by rw[Nat.add_mul,Nat.mul_add,Nat.mul_comm c];omega
   omega
  have KL:c<far:=by unfold far;omega
  refine⟨_,rfl,fun w hbs hn=>⟨.cells ⟨Ah I (Gk (Aq z) c)⟩ e,?_,(Ji hb.1 KL).2,Gz ir hbs hn⟩⟩
  rw[(Ji hb.1 KL).1]
  have hw:∀m:Nat,m<2^40->IntKind.i64.wrap (m:Int)=(m:Int):=fun m hm=>by
   have h64:(2:Int)^64=18446744073709551616:=by decide
   have h63:(2:Int)^63=9223372036854775808:=by decide
   simp only[IntKind.wrap,IntKind.bits,IntKind.signed,h64,h63]
   rw[Int.emod_eq_of_lt (by omega) (by omega),if_neg (by simp;omega)]
  have qD:l<2^40:=by omega
  have hrep:=Qj (Aq z) c (c*ie.size) (by rw[hzl])
  simp only[execOp,ho,Instr.makeSlice,Sem.run_bind,run_underlying ht,Result.andThen_ok,e1,e2,asInt,asIntOf,Sem.run_pure,run_typeInfo _ hi,hw l qD,hw c hbig.1]
  rw[if_neg (by simp;omega)]
  simp only[Sem.run_bind,run_askRoom,Result.andThen_ok,Bu hs,Int.toNat_natCast]
  by_cases hc0:c=0
  ·subst hc0
   have hr0:∀f:Nat->Value,Array.map f (Array.range 0)=⟨[]⟩:=fun f=>by simp[Array.range]
   simp[hr0,newRow,Gk,Ah]
  ·have hne:¬(c*ie.size=0):=by
    rw[Nat.mul_eq_zero];omega
   rw[if_neg hne]
   simp only[Sem.run_bind,(BG hz w).1,Result.andThen_ok,Sem.run_pure,C4]
   rw[hrep,er]
   simp[newRow]
 ·simp at ha


theorem PN {o:Oper}{op:BinOp}{t:TypeId}{x y:Operand}{ao:Bn}(hc:ae P o op t x y=some ao):ao.fresh=false/\ao.light=true:=by
 unfold ae at hc
 simp only[Option.bind_eq_some_iff]at hc
 obtain⟨x',hx,y',hy,hc⟩:=hc
 repeat' split at hc
 all_goals(simp at hc;subst hc;exact⟨rfl,rfl⟩)
theorem UK {o:Oper}{c:Call}{ao:Bn}(hc:Oc P o c=some (.op ao)) (hl:ao.light=true):ao.fresh=false:=by
 unfold Oc at hc
 split at hc
 ·simp only[Option.bind_eq_some_iff,Option.map_eq_some_iff]at hc
  obtain⟨_,_,_,_,hc⟩:=hc
  simp at hc
 ·split at hc
  ·simp only[Option.map_eq_some_iff]at hc
   obtain⟨_,_,hc⟩:=hc
   simp at hc
  ·simp at hc
 ·split at hc
  ·simp only[Option.bind_eq_some_iff]at hc
   obtain⟨x',hx',hc⟩:=hc
   split at hc<;>first
    |(simp at hc;done)
    |(simp at hc;subst hc;rfl)
    |(simp only[Option.map_eq_some_iff]at hc;obtain⟨_,_,hc⟩:=hc;simp at hc;subst hc;rfl)
  ·simp only[Option.bind_eq_some_iff]at hc
   obtain⟨x',hx',y',hy',hc⟩:=hc
   split at hc
   ·split at hc
    ·simp at hc
    ·simp only[Option.bind_eq_some_iff]at hc
     obtain⟨ie,_,z,_,hc⟩:=hc
     split at hc<;>simp at hc
     subst hc;simp[Bn.light]at hl
    ·simp at hc
   ·simp only[Option.map_eq_some_iff]at hc
    obtain⟨s,_,hc⟩:=hc
    simp at hc;subst hc;rfl
   all_goals first
    |(simp at hc;done)
    |(simp at hc;subst hc;rfl)
  ·split at hc
   all_goals first
    |(simp at hc;done)
    | (simp only[Option.map_eq_some_iff]at hc
       obtain⟨ys,hys,hc⟩:=hc
       simp at hc;subst hc;rfl)

theorem XI (hρ:Ev I ts ρ) {o:Oper}{ao:Bn}{lo Av:Nat}{h h':H}{v:Value}(hc:comp P o=some (.op ao)) (hl:ao.light=true) (hf:ao.fresh=true)
 (ha:BZ P lo Av ts h ao=some (v,h')):Ou P I ρ o Av h h' v:=by
 have hc:=QY hc (by rintro rfl;simp[Bn.fresh]at hf)
 unfold KS at hc
 cases ho:o.op<;>rw[ho]at hc<;>simp only[Option.bind_eq_some_iff,Option.map_eq_some_iff,reduceCtorEq]at hc
 case alloc e=>obtain⟨z,hz,hc⟩:=hc;simp at hc;subst hc;exact SH ho hz ha
 case box e x=>obtain⟨x',hx,hc⟩:=hc;simp at hc;subst hc;exact Xo hρ ho hx ha
 case buildSlice t len parts=>
  split at hc
  ·rename_i e ht
   simp only[Option.bind_eq_some_iff]at hc
   obtain⟨ie,hi,z,hz,hc⟩:=hc
   split at hc
   ·rename_i hb
    simp only[Option.map_eq_some_iff]at hc
    obtain⟨ps,hps,hc⟩:=hc
    simp at hc;subst hc
    exact QJ hρ ho ht hi hz hb.1 hb.2.1 hb.2.2 hps ha
   ·simp at hc
  ·simp at hc
 case makeMap t r=>cases r<;>simp at hc;subst hc;exact SG ho ha
 case makeSlice t l c=>
  split at hc
  ·rename_i e ht
   simp only[Option.bind_eq_some_iff]at hc
   obtain⟨ie,hi,z,hz,hc⟩:=hc
   split at hc
   ·rename_i hb
    simp only[Option.bind_eq_some_iff,Option.map_eq_some_iff]at hc
    obtain⟨l',hl',c',hc',hc⟩:=hc
    simp at hc;subst hc
    exact OH hρ ho ht hi hz hb.1 hb.2 hl' hc' ha
   ·simp at hc
  ·simp at hc
 case binOp op t x y t'=>
  obtain⟨sA,hb,hc⟩:=hc
  simp at hc;subst hc
  rw[(PN hb).1]at hf;cases hf
 case call c=>rw[UK hc hl]at hf;cases hf
 case panic x=>simp at hc;subst hc;simp[Bn.fresh]at hf
 case move=>obtain⟨_,_,hc⟩:=hc;simp at hc;subst hc;simp[Bn.fresh]at hf
 case assign=>obtain⟨_,_,hc⟩:=hc;simp at hc;subst hc;simp[Bn.fresh]at hf
 case pick=>obtain⟨_,_,_,_,_,_,hc⟩:=hc;simp at hc;subst hc;simp[Bn.fresh]at hf
 case build=>
  obtain⟨_,_,hc⟩:=hc
  split at hc
  ·split at hc
   ·simp only[Option.map_eq_some_iff]at hc
    obtain⟨_,_,hc⟩:=hc;simp at hc;subst hc;simp[Bn.fresh]at hf
   ·simp at hc
  ·simp only[Option.bind_eq_some_iff,Option.map_eq_some_iff]at hc
   obtain⟨_,_,_,_,hc⟩:=hc;simp at hc;subst hc;simp[Bn.fresh]at hf
  ·simp at hc
 case load=>
  obtain⟨_,_,hc⟩:=hc
  split at hc
  ·simp only[Option.map_eq_some_iff]at hc
   obtain⟨_,_,hc⟩:=hc;simp at hc;subst hc;simp[Bn.fresh]at hf
  ·simp at hc;subst hc;simp[Bn.fresh]at hf
  ·simp at hc
 case store=>obtain⟨_,_,_,_,_,_,hc⟩:=hc;simp at hc;subst hc;simp[Bn.fresh]at hf
 case nilCheck=>obtain⟨_,_,hc⟩:=hc;simp at hc;subst hc;simp[Bn.fresh]at hf
 case unOp=>
  obtain⟨_,_,hc⟩:=hc
  split at hc<;>(simp at hc;subst hc;simp[Bn.fresh]at hf)
 case convert=>
  obtain⟨_,_,hc⟩:=hc
  split at hc
  ·simp at hc;subst hc;simp[Bn.fresh]at hf
  ·split at hc
   ·simp at hc;subst hc;simp[Bn.light]at hl
   ·simp at hc
  ·simp at hc;subst hc;simp[Bn.fresh]at hf
 case makeInterface=>
  split at hc
  ·simp at hc
  ·simp only[Option.map_eq_some_iff]at hc
   obtain⟨_,_,hc⟩:=hc;simp at hc;subst hc;simp[Bn.fresh]at hf
  ·simp at hc
 case makeFunc=>
  split at hc
  ·simp only[Option.bind_eq_some_iff,Option.map_eq_some_iff]at hc
   obtain⟨_,_,_,_,hc⟩:=hc;simp at hc;subst hc;simp[Bn.fresh]at hf
  ·simp at hc
 case slice=>
  obtain⟨_,_,_,_,_,_,_,_,hc⟩:=hc
  split at hc
  ·simp at hc
  ·split at hc
   ·simp only[Option.map_eq_some_iff]at hc
    obtain⟨_,_,hc⟩:=hc;simp at hc;subst hc;simp[Bn.fresh]at hf
   ·simp only[Option.map_eq_some_iff]at hc
    obtain⟨_,_,hc⟩:=hc;simp at hc;subst hc;simp[Bn.fresh]at hf
   ·simp at hc;subst hc;simp[Bn.fresh]at hf
   ·simp at hc
 case fieldAddr=>
  split at hc
  ·simp only[Option.bind_eq_some_iff]at hc
   obtain⟨_,_,_,_,hc⟩:=hc
   split at hc
   ·simp at hc
   ·simp only[Option.map_eq_some_iff]at hc
    obtain⟨_,_,hc⟩:=hc;simp at hc;subst hc;simp[Bn.fresh]at hf
  ·simp at hc
 case field=>
  split at hc
  ·simp only[Option.bind_eq_some_iff]at hc
   obtain⟨_,_,_,_,hc⟩:=hc
   split at hc
   ·simp only[Option.map_eq_some_iff]at hc
    obtain⟨_,_,hc⟩:=hc;simp at hc;subst hc;simp[Bn.fresh]at hf
   ·simp at hc;subst hc;simp[Bn.fresh]at hf
   ·simp at hc
  ·simp at hc
 case indexAddr=>
  obtain⟨_,_,_,_,hc⟩:=hc
  split at hc
  ·simp only[Option.map_eq_some_iff]at hc
   obtain⟨_,_,hc⟩:=hc;simp at hc;subst hc;simp[Bn.fresh]at hf
  ·simp only[Option.map_eq_some_iff]at hc
   obtain⟨_,_,hc⟩:=hc;simp at hc;subst hc;simp[Bn.fresh]at hf
  ·simp at hc
 case index=>
  obtain⟨_,_,_,_,hc⟩:=hc
  split at hc
  ·split at hc
   ·simp only[Option.map_eq_some_iff]at hc
    obtain⟨_,_,hc⟩:=hc;simp at hc;subst hc;simp[Bn.fresh]at hf
   ·split at hc
    ·simp at hc;subst hc;simp[Bn.fresh]at hf
    ·simp at hc
   ·simp at hc
  ·simp at hc;subst hc;simp[Bn.fresh]at hf
  ·simp at hc
 case extract=>obtain⟨_,_,hc⟩:=hc;simp at hc;subst hc;simp[Bn.fresh]at hf
 case typeAssert=>
  split at hc
  ·split at hc
   ·simp at hc
   ·simp only[Option.map_eq_some_iff]at hc
    obtain⟨_,_,hc⟩:=hc;simp at hc;subst hc;simp[Bn.fresh]at hf
  ·simp only[Option.bind_eq_some_iff,Option.map_eq_some_iff]at hc
   obtain⟨_,_,_,_,hc⟩:=hc;simp at hc;subst hc;simp[Bn.fresh]at hf
  ·simp at hc
 case lookup=>
  split at hc
  ·simp only[Option.bind_eq_some_iff,Option.map_eq_some_iff]at hc
   obtain⟨_,_,_,_,_,_,hc⟩:=hc;simp at hc;subst hc;simp[Bn.fresh]at hf
  ·simp at hc
 case mapUpdate=>
  split at hc
  ·simp only[Option.bind_eq_some_iff,Option.map_eq_some_iff]at hc
   obtain⟨_,_,_,_,_,_,hc⟩:=hc;simp at hc;subst hc;simp[Bn.fresh]at hf
  ·simp at hc
 case insert=>
  split at hc
  ·simp only[Option.bind_eq_some_iff,Option.map_eq_some_iff]at hc
   obtain⟨_,_,_,_,_,_,hc⟩:=hc;simp at hc;subst hc;simp[Bn.fresh]at hf
  ·simp at hc
 case range=>
  split at hc
  ·simp only[Option.map_eq_some_iff]at hc
   obtain⟨_,_,hc⟩:=hc;simp at hc;subst hc;simp[Bn.light]at hl
  ·simp only[Option.map_eq_some_iff]at hc
   obtain⟨_,_,hc⟩:=hc;simp at hc;subst hc;simp[Bn.light]at hl
  ·simp at hc
 case next=>
  split at hc
  ·simp only[Option.map_eq_some_iff]at hc
   obtain⟨_,_,hc⟩:=hc;simp at hc;subst hc;simp[Bn.light]at hl
  ·simp at hc
 case entry=>obtain⟨_,_,hc⟩:=hc;simp at hc;subst hc;simp[Bn.light]at hl
 case mapEntry=>
  split at hc
  ·simp only[Option.bind_eq_some_iff,Option.map_eq_some_iff]at hc
   obtain⟨_,_,_,_,_,_,hc⟩:=hc;simp at hc;subst hc;simp[Bn.light]at hl
  ·simp at hc
 case entryStore=>obtain⟨_,_,_,_,_,_,hc⟩:=hc;simp at hc;subst hc;simp[Bn.light]at hl

end
end AE

/- Stores: abstract and in a world. -/
namespace AE
open Go Go.RowKit

structure But (b:Nat) (w w':World):Prop where
 os:w'.os=w.os
 tape:w'.tape=w.tape
 output:w'.output=w.output
 size:w'.heap.size=w.heap.size
 block:∀k,k≠b->w'.heap[k]? =w.heap[k]?

theorem But.setRow (w:World) (b:Nat) (cs:Array Value):But b w (w.setRow b cs):=by
 refine⟨rfl,rfl,rfl,by simp[World.setRow],fun k hk=>?_⟩
 simp only[World.setRow,Array.getElem?_modify]
 rw[if_neg (by omega)]

theorem IC {I:Al}{vs:List Value}(hone:vs.all Value.oneCell'=true):∀v∈Ah I vs,v.oneCell'=true:=by
 intro v hv'
 rw[FZ,List.mem_map]at hv'
 obtain⟨u,hu,rfl⟩:=hv'
 have:=List.all_eq_true.1 hone u hu
 match u with
 |.agg _=>simp[Value.oneCell']at this
 |.tuple _=>simp[Value.oneCell']at this
 |.pointer (some _)=>simp[ren,Value.oneCell']
 |.pointer none=>simp[ren,Value.oneCell']
 |.slice (some _) _ c=>rcases Nat.lt_or_ge c far with hc|hc<;>simp[BD,CR,hc,Value.oneCell']
 |.slice none _ _=>simp[ren,Value.oneCell']
 |.map (some _)=>simp[ren,Value.oneCell']
 |.map none=>simp[ren,Value.oneCell']
 |.chan _=>simp[ren,Value.oneCell']
 |.func _ ⟨_⟩ ⟨_⟩=>simp[ren,Value.oneCell']
 |.iface _ _=>simp[ren,Value.oneCell']
 |.bool _=>simp[ren,Value.oneCell']
 |.int _ _=>simp[ren,Value.oneCell']
 |.float _ _=>simp[ren,Value.oneCell']
 |.complex _ _ _=>simp[ren,Value.oneCell']
 |.string _=>simp[ren,Value.oneCell']
 |.nilFunc=>simp[ren,Value.oneCell']
 |.nilIface=>simp[ren,Value.oneCell']
theorem IU {w:World}{b:Nat}{C:Array Value}(D:Array Value) {e:TypeId}(hb:w.heap[b]? =some (.cells C e (0,0))):(w.setRow b D).heap[b]? =some (.cells D e (0,0)):=by
 simp[World.setRow,Array.getElem?_modify,hb]

theorem Gq {P:Program}{I:Al}{h h':H}{lo:Nat}{w:World}{a:Addr}{vs:List Value}{row:A9}(hg:h.get a.block=some row) (k:Bw I a.block w row) (ha:Jt I a) (hv:BH I vs) (hs:h.Df lo a vs=some h'):
 lo<=a.block/\∃b row' w',Cx I a=some b/\h'=h.put a.block row'/\(storeCells b (Ah I vs)).run P w= .ok () w'/\Bw I a.block w' row'/\But b.block w w'/\I.base<=b.block/\(∃s d,I.at_ a.block s=some (b.block,d)):=by
 obtain⟨p,hp⟩:=ha
 unfold H.Df at hs
 split at hs
 ·rename_i hc
  obtain⟨hlo,hone⟩:=hc
  refine⟨hlo,⟨p.1,p.2+a.off,none⟩,?_⟩
  simp only[hg,Option.bind_some,Option.map_eq_some_iff]at hs
  obtain⟨row',hrow,rfl⟩:=hs
  have dW:=IC (I:=I) hone
  have hheap:∀(b:Nat) (C D:Array Value) (e:TypeId),w.heap[b]? =some (.cells C e (0,0))->(w.setRow b D).heap[b]? =some (.cells D e (0,0)):=by
   intro b C D e hb
   simp[World.setRow,Array.getElem?_modify,hb]
  cases row with
  | cells c e=>
    cases hsp:a.spot with
    |some g=>rw[hsp]at hrow;simp[Cw]at hrow
    | none=>
      rw[hsp]at hrow hp
      simp only[Cw]at hrow
      split at hrow<;>simp at hrow
      rename_i hle
      subst hrow
      obtain⟨i,b,e1,e2,e3⟩:=k
      rw[hp]at e1;simp at e1;subst e1
      have hrun:=run_storeCells_at (P:=P) b (0+a.off) e (Ah I vs) 0 ⟨Ah I c⟩ w e3 (by simp;omega) dW
      refine⟨.cells (splice c a.off vs) e,_,by simp only[Cx,hsp,hp],rfl,hrun,⟨Kb i hv,b,hp,e2,?_⟩,But.setRow _ _ _,e2,none,_,hp⟩
      rw[hheap b _ _ e e3,Iv]
      simp[splice]
  | grow c e sz lens valid=>
    cases hsp:a.spot with
    |none=>rw[hsp]at hrow;simp[Cw]at hrow
    | some g=>
      rw[hsp]at hrow hp
      simp only[Cw]at hrow
      split at hrow<;>simp at hrow
      rename_i hle
      subst hrow
      obtain⟨i,h1,h2,hgen, -,h3⟩:=k
      obtain⟨hvl,hg1,hoff⟩:=hle
      obtain⟨b,d,C,e1,e2,e3,e4,e5,e6⟩:=h3 g hvl (by omega)
      rw[hp]at e1;simp at e1;subst e1
      have hgl:Ea lens g=c.length:=by
       unfold Ea
       rw[show lens.length - 1 - g=0 by omega]
       cases lens with
       |nil=>simp at h1
       |cons x xs=>simp at h1⊢;exact h1
      have hlr:(Ah I vs).length=vs.length:=by simp
      have hrun:=run_storeCells_at (P:=P) b (d+a.off) e (Ah I vs) 0 C w e3 (by rw[hlr];omega) dW
      refine⟨.grow (splice c a.off vs) e sz lens g,_,by simp only[Cx,hsp,hp],rfl,hrun,⟨Kb i hv,?_,?_,hgen,fun g1 g2 b d d' v1 v2 x1 x2=>by obtain rfl:g1=g2:=(by have:=hgen _ _ x1;have:=hgen _ _ x2;omega);rw[x1]at x2;simp at x2;exact x2,?_⟩,But.setRow _ _ _,e2,some g,_,hp⟩
      ·rw[h1,JA hoff]
      ·rw[JA hoff];exact h2
      ·intro g' hg' hlt
       obtain rfl:g'=g:=by omega
       refine⟨b,d,_,hp,e2,hheap b _ _ e e3,?_,?_,?_⟩
       ·simp[hlr];omega
       ·have:(C.toList.take (d+a.off+0)++Ah I vs++C.toList.drop (d+a.off+0+(Ah I vs).length)).toArray.size=C.size:=by
         simp[hlr];omega
        rw[this];exact e5
       ·intro j hj
        rw[hgl]at hj
        have sj:∀j,j<c.length->C.toList[d+j]? =(Ah I c)[j]? :=fun j hj=>by rw[Array.getElem?_toList];exact e6 j (by omega)
        rw[Iv]
        simp only[List.getElem?_toArray,splice,List.append_assoc,List.getElem?_append,List.getElem?_take,List.getElem?_drop,List.length_take,hlr,Bp,Array.length_toList,Nat.add_zero]
        have m1:min (d+a.off) C.size=d+a.off:=by omega
        have m2:min a.off c.length=a.off:=by omega
        rw[m1,m2]
        by_cases h7:j<a.off
        ·rw[if_pos (by omega),if_pos (by omega),if_pos h7,if_pos h7,sj j (by omega)]
        ·rw[if_neg (by omega),if_neg h7,show d+j - (d+a.off)=j - a.off by omega]
         by_cases h8:j - a.off<vs.length
         ·rw[if_pos h8,if_pos h8]
         ·rw[if_neg h8,if_neg h8,show d+a.off+vs.length+(j - a.off - vs.length)=d+(a.off+vs.length+(j - a.off - vs.length)) by omega,sj _ (by omega)]
  |ro c=>simp[Cw]at hrow
  |map es cl=>simp[Cw]at hrow
  |iter m s l c=>simp[Cw]at hrow
  |Ki s p=>simp[Cw]at hrow
  |loop l=>simp[Cw]at hrow
  |defers=>simp[Cw]at hrow
  |gone=>simp[Cw]at hrow
 ·simp at hs


theorem Rel.Jq {I:Al}{h:H}{w:World}{r:Nat}{row:A9}(k:Rel I h w) (hd:I.dom r):∀r',(h.put r row).next<=r'->(h.put r row).get r'=none:=by
 intro r' hr'
 have hlt:=k.lt r hd
 simp only[H.put]at hr'⊢
 rw[if_neg (by omega)]
 exact k.clean r' hr'
theorem Rel.store {I:Al}{h:H}{w w':World}{r b:Nat}{row:A9}(k:Rel I h w) (hb:I.base<=b) (hr:∃s d,I.at_ r s=some (b,d)) (hw:But b w w') (hrow:Bw I r w' row):Rel I (h.put r row) w':=by
 obtain⟨s0,d0,hs0⟩:=hr
 refine⟨fun r' row' e d=>?_,k.lt,fun r' s b' d e=>by rw[hw.size];exact k.size _ _ _ _ e,by rw[hw.size];exact k.base,k.tabs.same (fun b' h1=>hw.block b' (by omega)),k.inj,k.Jq ⟨_,_,hs0⟩⟩
 simp only[H.put]at e
 split at e
 ·rename_i hrr
  simp at e;subst hrr;subst e;exact hrow
 ·rename_i hrr
  refine(k.rows r' row' e d).le (Le.refl I) (fun _ _ e=>e) (fun b' ⟨s',d',hb'⟩=>hw.block b' (fun hbb=>?_))
  subst hbb
  exact hrr (k.inj _ _ _ _ _ _ _ hb' hs0 hb)
theorem But.ext {I:Al}{lo b r:Nat}{w w':World}{s:Option Nat}{d:Nat}(hw:But b w w') (hl:lo<=r) (hr:I.at_ r s=some (b,d)) (hb:I.base<=b):Ext I lo w w':=by
 refine⟨hw.os,hw.tape,hw.output,by rw[hw.size];exact Nat.le_refl _,fun b' _ hx=>hw.block b' (fun e=>?_)⟩
 subst e
 have:=hx _ _ _ hr hb
 omega

section
variable {P:Program}{I:Al}{ts:Ts}{ρ:Operand->Value}

def Ie (P:Program) (I:Al) (ρ:Operand->Value) (o:Oper) (lo Av:Nat) (h':H) (v:Value) (w:World):Prop:=
 ∃J w' nx,(BA I J w/\(∀r,J.dom r->I.dom r\/r=Av)/\∀r s p,r<lo->J.at_ r s=some p->I.at_ r s=some p)/\Rel J h' w'/\In J v/\Ext I lo w w'/\(execOp ρ o).run P w= .ok nx w'/\(nx= .value (ren J v)\/(nx= .skip/\v=undef))

theorem Qe (hρ:Ev I ts ρ) {o:Oper}{t:TypeId}{n lo:Nat}{x y:Operand}{x' y':AP}{h h':H}{w:World}{v:Value}(ho:o.op= .store t x y) (hn:sizeT P t=some n) (hx:AJ x=some x') (hy:AJ y=some y')
 (hv:Hs lo n (Aq (ev ts y')) h (ev ts x')=some (v,h')) (k:∀a row,ev ts x'= .pointer (some a)->h.get a.block=some row->Bw I a.block w row):
 ∃a b row' w',ev ts x'= .pointer (some a)/\lo<=a.block/\v=undef/\h'=h.put a.block row'/\Bw I a.block w' row'/\But b w w'/\I.base<=b/\(∃s d,I.at_ a.block s=some (b,d))/\(execOp ρ o).run P w= .ok .skip w':=by
 obtain⟨e1,i1⟩:=hρ x x' hx
 obtain⟨e2,i2⟩:=hρ y y' hy
 unfold Hs at hv
 split at hv
 ·rename_i a ha
  rw[ha]at e1 i1
  split at hv<;>simp only[Option.map_eq_some_iff,Prod.mk.injEq,reduceCtorEq]at hv
  rename_i hlen
  obtain⟨h'',hs,rfl,rfl⟩:=hv
  cases hg:h.get a.block with
  | none=>
    unfold H.Df at hs
    rw[hg]at hs
    split at hs<;>simp at hs
  | some row=>
    obtain⟨hlo,b,row',w',hb,rfl,hrun,hrow,B2,hbase,hat⟩:=Gq (P:=P) hg (k a row ha hg) (by simpa[In]using i1) (Gj i2) hs
    refine⟨a,b.block,row',w',ha,hlo,rfl,rfl,hrow,B2,hbase,hat,?_⟩
    have hlen':(⟨Ah I (Aq (ev ts y'))⟩:Array Value).size=n:=by simp[hlen]
    simp only[execOp,ho,e1,e2,ren,hb,Instr.storeAt,Instr.sureAddr,storeVar,Sem.run_bind,Sem.run_pure,Result.andThen_ok,Bu hn,C4,Gd,hlen',ne_eq,not_true_eq_false,if_false,hrun]
 ·simp at hv

end
end AE
