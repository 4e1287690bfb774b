/- Walks and plain laws: KClkRf, KClkRg, KClkRh, KClkRi, KClkRe, KClkRj, KClkSt, KClkMa, KClkMb, KClkMc, KClkMd, KClkMe. -/
import Derived.Test.YtbgiemgoafjohaaGreatDoorJoin80
import Derived.Test.YtbgiemgoafjohaaGreatDoorAEthree
set_option linter.unusedVariables false
set_option linter.unusedSimpArgs false
set_option linter.unusedSectionVars false

/- Clerk: what Read made is a book; the file of the rows. -/
namespace AE.Tryz
open Go AE Go.Proofs AE.Clerk
set_option maxRecDepth 100000
set_option linter.unusedVariables false

end AE.Tryz

/- Clerk, walked: the definitions' split. -/
namespace AE.Tryz
open Go AE Go.Proofs AE.Clerk
set_option maxRecDepth 100000
set_option linter.unusedVariables false

end AE.Tryz

/- Clerk: the line that the words of a row could be, in plain words. -/
namespace AE.Tryz
open Go AE Go.Proofs AE.Clerk
set_option maxRecDepth 100000
set_option linter.unusedVariables false

def many (k:Int):Nat:=if k=0\/k=2\/k=4 then 1 else if k=1\/k=3 then 3 else 2
end AE.Tryz

/- Clerk, walked: the line that the words of a row could be (printed by gen_rline.py). -/
namespace AE.Tryz
open Go AE Go.Proofs AE.Clerk
set_option maxRecDepth 100000
set_option linter.unusedVariables false

end AE.Tryz

/- Clerk, walked: Read. -/
namespace AE
open Go
section
variable {P:Program}{lo Av:Nat}{ts:Ts}{h:H}{K:Value->H->Prop}{κ:Type} [BEq κ] [LawfulBEq κ] {kt:TypeId}{f:κ->Value}{m x y:AP}{es:List (EG κ)}{c r:Nat}{k:κ}{v z:Value}
theorem Vg (hk:Gm P kt f) (hm:ev ts m= .map (some r)) (hx:ev ts x=f k) (hy:ev ts y=v) (hlo:lo<=r) (hg:h.get r=some (.map (es.map (EG.ent f)) c)) (hn:(es.map EG.k).Nodup)
 (hr:K undef (h.put r (.map ((TW es k v c).map (EG.ent f)) (UG es k c)))):Dj P lo Av ts h (.Fs kt m x y) K:=
 Dj.mk (by subst hy;exact fT hk hm hx hlo hg hn) hr
theorem Qm (hk:Gm P kt f) (hm:ev ts m= .map (some r)) (hx:ev ts x=f k) (hg:h.get r=some (.map (es.map (EG.ent f)) c)) (hr:K ((Jy es k).getD z) h):Dj P lo Av ts h (.lookup kt z false m x) K:=
 Dj.mk (cg hk hm hx hg) hr
theorem bF (hk:Gm P kt f) (hm:ev ts m= .map (some r)) (hx:ev ts x=f k) (hg:h.get r=some (.map (es.map (EG.ent f)) c)) (hr:K (.tuple #[(Jy es k).getD z,.bool (Jy es k).isSome]) h):Dj P lo Av ts h (.lookup kt z true m x) K:=
 Dj.mk (YX hk hm hx hg) hr
end
end AE
namespace AE.Tryz
open Go AE Go.Proofs AE.Clerk
set_option maxRecDepth 100000
set_option linter.unusedVariables false
end AE.Tryz

/- Clerk, walked: Read by the definitions. -/
namespace AE.Tryz
open Go AE Go.Proofs AE.Clerk
set_option maxRecDepth 100000
set_option linter.unusedVariables false

end AE.Tryz

/- Clerk: how the ledger lies in the heap. -/
namespace AE.Clerk
structure CU.Ok (t:Int) (m:CU):Prop where
 E7:1<=m.E7/\m.E7<=1000000
 loss:0<=m.loss/\m.loss<=1000001
 stage:0<=m.stage/\m.stage<=2
 opn:0<=m.opn/\m.opn<=t
 runs:0<=m.runs/\m.runs<=t
 billed:0<=m.billed/\m.billed<=60000000*t
 claimed:0<=m.claimed/\m.claimed<=1000000*t
 paid:0<=m.paid/\m.paid<=1000000000*t
 no:1<=m.no/\m.no<=1099511627776
structure St.Ok (t:Nat) (s:St):Prop where
 BS:0<=s.BS/\s.BS<=1000000*t
 lost:0<=s.lost/\s.lost<=1000001*t
 ms:∀m∈s.ms,m.Ok t
 rs:∀r∈s.rs,r.at_<t/\0<=r.cost/\r.cost<=1000000/\1<=r.no/\r.no<=1099511627776
 mn:(s.ms.map CU.no).Nodup
 rn:(s.rs.map Rn.at_).Nodup
 ml:s.ms.length<=t
 rl:s.rs.length<=t
theorem CU.Ok.mono {t u:Int}{m:CU}(h:m.Ok t) (htu:t<=u):m.Ok u:=by
 obtain⟨h1,h2,h3,h4,h5,h6,h7,h8,h9⟩:=h
 exact⟨h1,h2,h3,by omega,by omega,by omega,by omega,by omega,h9⟩
theorem St.Ok.mono {t u:Nat}{s:St}(h:s.Ok t) (htu:t<=u):s.Ok u:=by
 obtain⟨h1,h2,h3,h4,h5,h6,h7,h8⟩:=h
 exact⟨by omega,by omega,fun m hm=>(h3 m hm).mono Af,fun r hr=>by have:=h4 r hr;omega,h5,h6,by omega,by omega⟩
end AE.Clerk
namespace AE.Tryz
open Go AE Go.Proofs AE.Clerk
set_option maxRecDepth 100000
set_option linter.unusedVariables false

def CF (p:Nat):Value:=.pointer (some ⟨p,0,none⟩)
def Cq (m:CU):List Value:=[.int .i64 m.no,.int .i64 m.stage,.int .i64 m.E7,.int .i64 m.runs,.int .i64 m.opn,.int .i64 m.billed,.int .i64 m.claimed,.int .i64 m.paid,.int .i64 m.loss]
def DG (ps:Nat->Nat):List CU->Nat->List (EG Int)
 |[],_=>[]
 |m::ms,i=>⟨m.no,CF (ps i),i⟩::DG ps ms (i+1)
def Fz:List Rn->Nat->List (EG Int)
 |[],_=>[]
 |r::rs,i=>⟨(r.at_:Nat),.int .i64 r.no,i⟩::Fz rs (i+1)
def Bj:List Rn->Nat->List (EG Int)
 |[],_=>[]
 |r::rs,i=>if r.back then Bj rs (i+1)else⟨(r.at_:Nat),.int .i64 r.cost,i⟩::Bj rs (i+1)
def JW (l:List (EG Int)):List MapEntry:=l.map (EG.ent fun k:Int=>Value.int .i64 k)
structure LP where
 g1:Nat
 g2:Nat
 g3:Nat
 g:Nat
 B:Nat
structure Lg (L:LP) (h:H) (ps:Nat->Nat) (s:St):Prop where
 g:h.get L.g=some (.cells [.int .i64 s.BS,.int .i64 s.lost,.map (some L.g1),.map (some L.g2),.map (some L.g3)] 125)
 m:h.get L.g1=some (.map (JW (DG ps s.ms 0)) s.ms.length)
 c:h.get L.g2=some (.map (JW (Bj s.rs 0)) s.rs.length)
 o:h.get L.g3=some (.map (JW (Fz s.rs 0)) s.rs.length)
 p:∀i m,s.ms[i]? =some m->h.get (ps i)=some (.cells (Cq m) 130)
 pb:∀i,i<s.ms.length->L.B<=ps i/\ps i<h.next
 pn:∀i j,i<s.ms.length->j<s.ms.length->ps i=ps j->i=j
 ord:L.g1<L.g2/\L.g2<L.g3/\L.g3<L.g/\L.g<L.B/\L.B<=h.next
def Fr (L:LP) (h h':H):Prop:=∀q,q<L.B->(q<L.g1\/L.g<q)->h'.get q=h.get q
theorem NB {ps:Nat->Nat}:∀{ms ms':List CU} {i:Nat},ms.map CU.no=ms'.map CU.no->DG ps ms i=DG ps ms' i
 |[],[],_,_=>rfl
 |[],_::_,_,h=>by simp at h
 |_::_,[],_,h=>by simp at h
 | m::ms,m'::ms',i,h=>by
   simp only[List.map_cons,List.cons.injEq]at h
   simp only[DG,h.1,NB h.2]
theorem JQ {ms:List CU}{i:Nat}{m m':CU}(hi:ms[i]? =some m) (hno:m'.no=m.no):(ms.set i m').map CU.no=ms.map CU.no:=by
 rw[List.map_set]
 apply List.ext_getElem?
 intro j
 rw[List.getElem?_set]
 by_cases hij:i=j
 ·subst hij
  obtain⟨hi1,hi2⟩:=List.getElem?_eq_some_iff.1 hi
  simp only[List.length_map,List.getElem?_map,if_true]
  rw[if_pos hi1,hi]
  simp[hno]
 ·rw[if_neg hij]
theorem Lg.step {L:LP}{h h':H}{ps:Nat->Nat}{s s':St}(k:Lg L h ps s) {i:Nat}{m m':CU}(hi:s.ms[i]? =some m) (hno:m'.no=m.no) (hms:s'.ms=s.ms.set i m')
 (hg:h'.get L.g=some (.cells [.int .i64 s'.BS,.int .i64 s'.lost,.map (some L.g1),.map (some L.g2),.map (some L.g3)] 125)) (h1:h'.get L.g1=h.get L.g1)
 (hc:h'.get L.g2=some (.map (JW (Bj s'.rs 0)) s'.rs.length)) (ho:h'.get L.g3=some (.map (JW (Fz s'.rs 0)) s'.rs.length)) (hp:h'.get (ps i)=some (.cells (Cq m') 130))
 (hq:∀q,L.B<=q->q<h.next->q≠ps i->h'.get q=h.get q) (hn:h.next<=h'.next):Lg L h' ps s':=by
 have hi1:i<s.ms.length:=(List.getElem?_eq_some_iff.1 hi).1
 have hl:s'.ms.length=s.ms.length:=by rw[hms,List.length_set]
 refine⟨hg,?_,hc,ho,fun j y hy=>?_,fun j hj=>?_,fun a b ha hb=>k.pn a b Af Af,?_⟩
 ·rw[h1,k.m,hl]
  congr 3
  exact NB (by rw[hms,JQ hi hno])
 ·rw[hms,List.getElem?_set]at hy
  by_cases hij:i=j
  ·subst hij
   rw[if_pos rfl,if_pos hi1]at hy
   simp only[Option.some.injEq]at hy
   subst hy
   exact hp
  ·rw[if_neg hij]at hy
   have hj:j<s.ms.length:=(List.getElem?_eq_some_iff.1 hy).1
   have:=k.pb j hj
   rw[hq _ this.1 this.2 fun e=>hij (k.pn i j hi1 hj e.symm)]
   exact k.p j y hy
 ·have:=k.pb j Af
  omega
 ·have:=k.ord
  omega
theorem Lg.step0 {L:LP}{h h':H}{ps:Nat->Nat}{s s':St}(k:Lg L h ps s) (hms:s'.ms=s.ms)
 (hg:h'.get L.g=some (.cells [.int .i64 s'.BS,.int .i64 s'.lost,.map (some L.g1),.map (some L.g2),.map (some L.g3)] 125)) (h1:h'.get L.g1=h.get L.g1)
 (hc:h'.get L.g2=some (.map (JW (Bj s'.rs 0)) s'.rs.length)) (ho:h'.get L.g3=some (.map (JW (Fz s'.rs 0)) s'.rs.length))
 (hq:∀q,L.B<=q->q<h.next->h'.get q=h.get q) (hn:h.next<=h'.next):Lg L h' ps s':=by
 refine⟨hg,by rw[h1,k.m,hms],hc,ho,fun j y hy=>?_,fun j hj=>?_,fun a b ha hb=>k.pn a b (by rwa [hms]at ha) (by rwa [hms]at hb),?_⟩
 ·rw[hms]at hy
  have:=k.pb j (List.getElem?_eq_some_iff.1 hy).1
  rw[hq _ this.1 this.2]
  exact k.p j y hy
 ·rw[hms]at hj
  have:=k.pb j hj
  omega
 ·have:=k.ord
  omega
theorem Lg.same {L:LP}{h h':H}{ps:Nat->Nat}{s:St}(k:Lg L h ps s) (hs:Same h.next h h') (hn:h.next<=h'.next):Lg L h' ps s:=by
 have o:=k.ord
 exact⟨(hs _ Af).trans k.g,(hs _ Af).trans k.m,(hs _ Af).trans k.c,(hs _ Af).trans k.o,fun i m hi=>by
  have:=k.pb i (List.getElem?_eq_some_iff.1 hi).1
  exact(hs _ this.2).trans (k.p i m hi),fun i hi=>by have:=k.pb i hi;omega,k.pn,by omega⟩
def dH (e:Int) (v:Value):Prop:=(e=0/\v= .nilIface)\/(e=5/\v= .iface 209 (.agg ⟨[]⟩))\/(e=10/\∃z,v= .iface 424 (.agg ⟨[.int .i64 z]⟩))\/(e≠0/\e≠5/\e≠10/\0<=e/\e<=100/\v= .iface 422 (.agg ⟨[.int .i64 e]⟩))
def LW (L:LP) (h:H) (s':St) (e:Int) (v:Value) (h':H):Prop:=(∃ps',Lg L h' ps' s')/\dH e v/\Fr L h h'/\h.next<=h'.next
theorem jq {s:St}{i:Nat}{m:CU}(h:s.ms[i]? =some m):m∈s.ms:=List.mem_of_getElem? h
end AE.Tryz

/- Clerk, walked: the ledger's methods. -/
namespace AE.Tryz
open Go AE Go.Proofs AE.Clerk
set_option maxRecDepth 100000
set_option linter.unusedVariables false

theorem mJ {L:LP}{h:H}{ps:Nat->Nat}{s:St}{t lo at_:Nat}{x:Ln}{mv:Value}(k:Lg L h ps s) (hlo:lo<=L.g1) (ok:s.Ok t) (ht:t<=60) (hv:1<=x.a/\x.a<=1000000):
 AW Tryz.prog 196 lo h [CF L.g,mv,.agg ⟨x.cells⟩,.int .i64 at_] (fun v h'=>LW L h ⟨s.BS+x.a,s.lost,s.ms,s.rs⟩ 0 v h'):=by
 obtain⟨o1,o2,o3,o4,o5⟩:=k.ord
 have kg:=k.g
 have b1:=ok.BS
 refine iw.call rfl Af ?_
 unfold a196 Ln.cells CF
 (refine Ai ?_)
 (refine AA ?_)
 exact⟨⟨ps,k.step0 rfl Aa D6 ((Ac fun y hy=>by(exact Aa):_=h.get L.g2).trans k.c) ((Ac fun y hy=>by(exact Aa):_=h.get L.g3).trans k.o) (fun q h1 h2=>Ac fun y hy=>Aa) Ag⟩,.inl ⟨rfl,rfl⟩,fun q h1 h2=>Ac fun y hy=>Aa,Ag⟩
structure aM (L:LP) (h:H) (ps:Nat->Nat) (s:St) (t lo p i:Nat) (m:CU):Prop where
 k:Lg L h ps s
 lo:lo<=L.g1
 ok:s.Ok t
 t60:t<=60
 hm:s.ms[i]? =some m
 hp:p=ps i
theorem aM.row {L:LP}{h:H}{ps:Nat->Nat}{s:St}{t lo p i:Nat}{m:CU}(a:aM L h ps s t lo p i m):L.B<=p/\p<h.next/\h.get p=some (.cells (Cq m) 130):=by
 have:=a.k.pb i (List.getElem?_eq_some_iff.1 a.hm).1
 rw[a.hp]
 exact⟨this.1,this.2,a.k.p i m a.hm⟩
theorem aM.jE {L:LP}{h:H}{ps:Nat->Nat}{s:St}{t lo p i:Nat}{m:CU}(a:aM L h ps s t lo p i m):m.Ok t:=a.ok.ms m (jq a.hm)
theorem mA {L:LP}{h:H}{ps:Nat->Nat}{s:St}{t lo at_ p i:Nat}{m:CU}{x:Ln}(a:aM L h ps s t lo p i m) (hx:x.k=2):
 AW Tryz.prog 198 lo h [CF L.g,CF p,.agg ⟨x.cells⟩,.int .i64 at_] (fun v h'=>LW L h (act x at_ s i m).1 (act x at_ s i m).2 v h'):=by
 have k:=a.k
 obtain⟨o1,o2,o3,o4,o5⟩:=k.ord
 obtain⟨p1,p2,kp⟩:=a.row
 have hlo:=a.lo
 have kg:=k.g
 have b1:=a.ok.BS
 have b2:=a.ok.lost
 have b3:=a.jE
 have ht:=a.t60
 obtain⟨w1,w2,w3,w4,w5,w6,w7,w8,w9⟩:=b3
 refine iu.call rfl Af ?_
 unfold a198 Ln.cells CF
 unfold Cq at kp
 by_cases h1:m.stage=0
 ·by_cases h2:0<=s.BS - m.E7 - m.loss
  ·rw[show act x at_ s i m=(⟨s.BS - (m.E7+m.loss),s.lost+m.loss,s.ms.set i {m with stage:=1},s.rs⟩,0) by unfold act;rw[if_pos hx,if_neg Af,if_neg Af]]
   (refine Ai ?_)
   (refine AA ?_)
   ((dsimp only;exact⟨⟨_,(a).k.step (a).hm (by rfl) rfl Aa D6 (Eq.trans D6 (a).k.c) (Eq.trans D6 (a).k.o) (by rw[<-(a).hp];(try dsimp only[Cq]);(exact Aa)) (fun q h1 h2 h3=>by rw[<-(a).hp]at h3;exact Ac fun y hy=>Aa) Ag⟩,.inl ⟨rfl,rfl⟩,fun q h1 h2=>Ac fun y hy=>Aa,Ag⟩))
  ·rw[show act x at_ s i m=(s,10) by unfold act;rw[if_pos hx,if_neg Af,if_pos Af]]
   (refine Ai ?_)
   (refine AA ?_)
   ((dsimp only;exact⟨⟨_,(a).k.same (fun q hq=>Ac fun y hy=>Aa) Ag⟩,(.inr (.inr (.inl ⟨rfl,_,rfl⟩))),fun q h1 h2=>Ac fun y hy=>Aa,Ag⟩))
 ·rw[show act x at_ s i m=(s,9) by unfold act;rw[if_pos hx,if_pos h1]]
  (refine Ai ?_)
  (refine AA ?_)
  ((dsimp only;exact⟨⟨_,(a).k.same (fun q hq=>Ac fun y hy=>Aa) Ag⟩,(.inr (.inr (.inr ⟨by decide,by decide,by decide,by decide,by decide,rfl⟩))),fun q h1 h2=>Ac fun y hy=>Aa,Ag⟩))
end AE.Tryz

/- Clerk, walked: melt, pay. -/
namespace AE.Tryz
open Go AE Go.Proofs AE.Clerk
set_option maxRecDepth 100000
set_option linter.unusedVariables false

theorem fR {L:LP}{h:H}{ps:Nat->Nat}{s:St}{t lo at_ p i:Nat}{m:CU}{x:Ln}(a:aM L h ps s t lo p i m) (hx:x.k=4):
 AW Tryz.prog 200 lo h [CF L.g,CF p,.agg ⟨x.cells⟩,.int .i64 at_] (fun v h'=>LW L h (act x at_ s i m).1 (act x at_ s i m).2 v h'):=by
 have k:=a.k
 obtain⟨o1,o2,o3,o4,o5⟩:=k.ord
 obtain⟨p1,p2,kp⟩:=a.row
 have hlo:=a.lo
 have kg:=k.g
 have b1:=a.ok.BS
 have b2:=a.ok.lost
 have b3:=a.jE
 have ht:=a.t60
 obtain⟨w1,w2,w3,w4,w5,w6,w7,w8,w9⟩:=b3
 refine ij.call rfl Af ?_
 unfold mX Ln.cells CF
 unfold Cq at kp
 by_cases h1:m.stage=1
 ·rw[show act x at_ s i m=(⟨s.BS+m.E7,s.lost,s.ms.set i {m with stage:=2},s.rs⟩,0) by unfold act;rw[if_neg Af,if_neg Af,if_pos hx,if_neg Af]]
  (refine Ai ?_)
  (refine AA ?_)
  ((dsimp only;exact⟨⟨_,(a).k.step (a).hm (by rfl) rfl Aa D6 (Eq.trans D6 (a).k.c) (Eq.trans D6 (a).k.o) (by rw[<-(a).hp];(try dsimp only[Cq]);(exact Aa)) (fun q h1 h2 h3=>by rw[<-(a).hp]at h3;exact Ac fun y hy=>Aa) Ag⟩,.inl ⟨rfl,rfl⟩,fun q h1 h2=>Ac fun y hy=>Aa,Ag⟩))
 ·rw[show act x at_ s i m=(s,9) by unfold act;rw[if_neg Af,if_neg Af,if_pos hx,if_pos h1]]
  (refine Ai ?_)
  (refine AA ?_)
  ((dsimp only;exact⟨⟨_,(a).k.same (fun q hq=>Ac fun y hy=>Aa) Ag⟩,(.inr (.inr (.inr ⟨by decide,by decide,by decide,by decide,by decide,rfl⟩))),fun q h1 h2=>Ac fun y hy=>Aa,Ag⟩))
theorem fK {h:H}{p:Nat}{m:CU}{t:Int}(hm:m.Ok t) (ht:0<=t/\t<=60) (kp:h.get p=some (.cells (Cq m) 130)):AW Tryz.prog 276 h.next h [CF p] (fun v _=>v= .int .i64 (m.billed - m.claimed - m.paid)):=by
 obtain⟨w1,w2,w3,w4,w5,w6,w7,w8,w9⟩:=hm
 refine gY.call rfl (Nat.le_refl _) ?_
 unfold mT CF
 unfold Cq at kp
 (refine Ai ?_)
 (refine AA ?_)
 rfl
theorem kx {L:LP}{h:H}{ps:Nat->Nat}{s:St}{t lo at_ p i:Nat}{m:CU}{x:Ln}(a:aM L h ps s t lo p i m) (hx:x.k=6) (hxa:1<=x.a/\x.a<=1000000000):
 AW Tryz.prog 202 lo h [CF L.g,CF p,.agg ⟨x.cells⟩,.int .i64 at_] (fun v h'=>LW L h (act x at_ s i m).1 (act x at_ s i m).2 v h'):=by
 have k:=a.k
 obtain⟨o1,o2,o3,o4,o5⟩:=k.ord
 obtain⟨p1,p2,kp⟩:=a.row
 have hlo:=a.lo
 have kg:=k.g
 have b3:=a.jE
 have ht:=a.t60
 have vX:=kp
 have b4:=b3
 obtain⟨w1,w2,w3,w4,w5,w6,w7,w8,w9⟩:=b4
 refine ig.call rfl Af ?_
 unfold mW Ln.cells
 have ep:CF p= .pointer (some ⟨p,0,none⟩):=rfl
 have eg:CF L.g= .pointer (some ⟨L.g,0,none⟩):=rfl
 rw[ep,eg]
 unfold Cq at kp
 (refine Ai ?_)
 apply Eo
 focus(exact Ae)
 focus(exact AK)
 focus exact fK (p:=p) b3 ⟨by omega,by omega⟩ Aa
 intro h2 q2 n2
 by_cases h1:x.a<=m.billed - m.claimed - m.paid
 ·rw[show act x at_ s i m=(⟨s.BS,s.lost,s.ms.set i {m with paid:=m.paid+x.a},s.rs⟩,0) by unfold act;rw[if_neg Af,if_neg Af,if_neg Af,if_neg Af,if_pos hx,if_neg Af]]
  (refine Ai ?_)
  (refine AA ?_)
  ((dsimp only;exact⟨⟨_,(a).k.step (a).hm (by rfl) rfl Aa D6 (Eq.trans D6 (a).k.c) (Eq.trans D6 (a).k.o) (by rw[<-(a).hp];(try dsimp only[Cq]);(exact Aa)) (fun q h1 h2 h3=>by rw[<-(a).hp]at h3;exact Ac fun y hy=>Aa) Ag⟩,.inl ⟨rfl,rfl⟩,fun q h1 h2=>Ac fun y hy=>Aa,Ag⟩))
 ·rw[show act x at_ s i m=(s,4) by unfold act;rw[if_neg Af,if_neg Af,if_neg Af,if_neg Af,if_pos hx,if_pos Af]]
  (refine Ai ?_)
  (refine AA ?_)
  ((dsimp only;exact⟨⟨_,(a).k.same (fun q hq=>Ac fun y hy=>Aa) Ag⟩,(.inr (.inr (.inr ⟨by decide,by decide,by decide,by decide,by decide,rfl⟩))),fun q h1 h2=>Ac fun y hy=>Aa,Ag⟩))
end AE.Tryz

/- Clerk, walked: run. -/
namespace AE
open Go
section
variable {P:Program}{lo Av:Nat}{ts:Ts}{h:H}{K:Value->H->Prop}{kt:TypeId}{m x y:AP}{es:List (EG Int)}{c r:Nat}{k:Int}{v z:Value}
theorem YE (hu:P.underlying kt=some (.int .i64)) (hm:ev ts m= .map (some r)) (hx:ev ts x= .int .i64 k) (hlo:lo<=r) (hg:h.get r=some (.map (es.map (EG.ent fun k:Int=>Value.int .i64 k)) c)) (hn:∀e∈es,e.k≠k)
 (hr:K (.tuple #[z,.int .i64 c]) (h.put r (.map ((es++[(⟨k,z,c⟩:EG Int)]).map (EG.ent fun k:Int=>Value.int .i64 k)) (c+1)))):Dj P lo Av ts h (.Ez kt z m x) K:=by
 have hk:=Gm.i64 (P:=P) hu
 refine Dj.mk ?_ hr
 have hf:es.findIdx? (fun e=>e.k==k)=none:=by
  rw[List.findIdx?_eq_none_iff]
  intro e he
  rw[beq_eq_false_iff_ne]
  exact hn e he
 have hs:Ll P kt (.int .i64 k)=true:=by
  have:Au P (Op.equal kt (.int .i64 k) (.int .i64 k))=some true:=by
   have:=d9 hu (Op.maxDepth - 1) k k
   simp only[beq_self_eq_true]at this
   exact this
  simp[Ll,P6,this]
 simp only[BZ,hm,hx,Gp,if_pos hlo,hg]
 rw[On hk,hf]
 simp[JE,hs,EG.ent]
theorem Vf (hm:ev ts m= .map (some r)) (hx:ev ts x= .int .i64 c) (hlo:lo<=r) {cc:Nat}{w:Value}(hg:h.get r=some (.map ((es++[(⟨k,z,c⟩:EG Int)]).map (EG.ent fun k:Int=>Value.int .i64 k)) cc)) (hn:∀e∈es,e.b≠c) (hy:ev ts y=w)
 (hr:K undef (h.put r (.map ((es++[(⟨k,w,c⟩:EG Int)]).map (EG.ent fun k:Int=>Value.int .i64 k)) cc))):Dj P lo Av ts h (.GC m x y) K:=by
 refine Dj.mk ?_ hr
 have hf:((es++[(⟨k,z,c⟩:EG Int)]).map (EG.ent fun k:Int=>Value.int .i64 k)).findIdx? (fun e:MapEntry=>((e.born:Int)==(c:Int)))=some es.length:=by
  rw[List.map_append,List.findIdx?_append]
  have:(es.map (EG.ent fun k:Int=>Value.int .i64 k)).findIdx? (fun e:MapEntry=>((e.born:Int)==(c:Int)))=none:=by
   rw[List.findIdx?_eq_none_iff]
   intro e he
   obtain⟨e',he',rfl⟩:=List.mem_map.1 he
   rw[beq_eq_false_iff_ne]
   have:=hn e' he'
   simp only[EG.ent]
   omega
  rw[this]
  simp[List.findIdx?_cons,EG.ent]
 simp only[BZ,hm,hx,hy,Lc,if_pos hlo,hg,hf,Pz]
 simp[EG.ent,List.set_append]
end
end AE
namespace AE.Tryz
open Go AE Go.Proofs AE.Clerk
set_option maxRecDepth 100000
set_option linter.unusedVariables false

theorem R3 (x:Rn):∀(rs:List Rn) (i:Nat),Fz (rs++[x]) i=Fz rs i++[⟨(x.at_:Nat),.int .i64 x.no,i+rs.length⟩]
 |[],i=>rfl
 | r::rs,i=>by
   simp only[List.cons_append,Fz,R3 x rs (i+1),List.length_cons]
   rw[show i+1+rs.length=i+(rs.length+1) by omega]
theorem PG (x:Rn) (hx:x.back=false):∀(rs:List Rn) (i:Nat),Bj (rs++[x]) i=Bj rs i++[⟨(x.at_:Nat),.int .i64 x.cost,i+rs.length⟩]
 |[],i=>by simp[Bj,hx]
 | r::rs,i=>by
   simp only[List.cons_append,Bj,PG x hx rs (i+1),List.length_cons]
   rw[show i+1+rs.length=i+(rs.length+1) by omega]
   split<;>simp
theorem Nt {e:EG Int}:∀{rs:List Rn} {i:Nat},e∈Fz rs i->(∃r∈rs,e.k=(r.at_:Nat))/\e.b<i+rs.length
 |[],i,h=>by simp[Fz]at h
 | r::rs,i,h=>by
   rcases List.mem_cons.1 h with rfl|h
   ·exact⟨⟨r,by simp,rfl⟩,by simp⟩
   ·obtain⟨⟨r',hr,e1⟩,e2⟩:=Nt h
    exact⟨⟨r',by simp[hr],e1⟩,by simp only[List.length_cons];omega⟩
theorem EH {e:EG Int}:∀{rs:List Rn} {i:Nat},e∈Bj rs i->(∃r∈rs,e.k=(r.at_:Nat))/\e.b<i+rs.length
 |[],i,h=>by simp[Bj]at h
 | r ::rs,i,h=>by
   unfold Bj at h
   split at h
   ·obtain⟨⟨r',hr,e1⟩,e2⟩:=EH h
    exact⟨⟨r',by simp[hr],e1⟩,by simp only[List.length_cons];omega⟩
   ·rcases List.mem_cons.1 h with rfl|h
    ·exact⟨⟨r,by simp,rfl⟩,by simp⟩
    ·obtain⟨⟨r',hr,e1⟩,e2⟩:=EH h
     exact⟨⟨r',by simp[hr],e1⟩,by simp only[List.length_cons];omega⟩
theorem jY {L:LP}{h:H}{ps:Nat->Nat}{s:St}{t lo p i:Nat}{m:CU}{x:Ln}(a:aM L h ps s t lo p i m) (hx:x.k=3):
 AW Tryz.prog 199 lo h [CF L.g,CF p,.agg ⟨x.cells⟩,.int .i64 t] (fun v h'=>LW L h (act x t s i m).1 (act x t s i m).2 v h'):=by
 have k:=a.k
 obtain⟨o1,o2,o3,o4,o5⟩:=k.ord
 obtain⟨p1,p2,kp⟩:=a.row
 have hlo:=a.lo
 have kg:=k.g
 have kc:h.get L.g2=some (.map ((Bj s.rs 0).map (EG.ent fun k:Int=>Value.int .i64 k)) s.rs.length):=k.c
 have ko:h.get L.g3=some (.map ((Fz s.rs 0).map (EG.ent fun k:Int=>Value.int .i64 k)) s.rs.length):=k.o
 have b3:=a.jE
 have ht:=a.t60
 obtain⟨w1,w2,w3,w4,w5,w6,w7,w8,w9⟩:=b3
 refine ik.call rfl Af ?_
 unfold mY Ln.cells CF
 unfold Cq at kp
 by_cases h1:m.stage=1
 ·rw[show act x t s i m=(⟨s.BS,s.lost,s.ms.set i {m with runs:=m.runs+1,opn:=m.opn+1},s.rs++[⟨t,x.m,0,false⟩]⟩,0) by unfold act;rw[if_neg Af,if_pos hx,if_neg Af]]
  (refine Ai ?_)
  apply YE (r:=L.g2) (es:=Bj s.rs 0) (c:=s.rs.length) (k:=(t:Int))
  focus exact Tryz.underlying3
  focus exact rfl
  focus exact rfl
  focus omega
  focus(exact Aa)
  focus
   intro e he
   obtain⟨⟨r,hr,e1⟩, -⟩:=EH he
   have:=(a.ok.rs r hr).1
   omega
  (refine Ai ?_)
  apply Vf (r:=L.g2) (es:=Bj s.rs 0) (c:=s.rs.length) (k:=(t:Int)) (w:=.int .i64 0)
  case hm=>exact rfl
  case hx=>exact rfl
  case hlo=>omega
  case hg=>(exact Aa)
  case hn=>exact fun e he=>by have:=(EH he).2;omega
  case hy=>exact rfl
  (refine Ai ?_)
  apply YE (r:=L.g3) (es:=Fz s.rs 0) (c:=s.rs.length) (k:=(t:Int))
  focus exact Tryz.underlying3
  focus exact rfl
  focus exact rfl
  focus omega
  focus(exact Aa)
  focus
   intro e he
   obtain⟨⟨r,hr,e1⟩, -⟩:=Nt he
   have:=(a.ok.rs r hr).1
   omega
  (refine Ai ?_)
  apply Vf (r:=L.g3) (es:=Fz s.rs 0) (c:=s.rs.length) (k:=(t:Int)) (w:=.int .i64 x.m)
  case hm=>exact rfl
  case hx=>exact rfl
  case hlo=>omega
  case hg=>(exact Aa)
  case hn=>exact fun e he=>by have:=(Nt he).2;omega
  case hy=>exact rfl
  (refine Ai ?_)
  (refine AA ?_)
  dsimp only
  refine⟨⟨_,a.k.step a.hm (by rfl) rfl Aa D6 ?_ ?_ (by rw[<-a.hp];(try dsimp only[Cq]);(exact Aa)) (fun q h1 h2 h3=>by rw[<-a.hp]at h3;exact Ac fun y hy=>Aa) Ag⟩,.inl ⟨rfl,rfl⟩,fun q h1 h2=>Ac fun y hy=>Aa,Ag⟩
  ·dsimp only
   rw[PG _ rfl,Nat.zero_add,List.length_append]
   unfold JW
   (exact Aa)
  ·dsimp only
   rw[R3,Nat.zero_add,List.length_append]
   unfold JW
   (exact Aa)
 ·rw[show act x t s i m=(s,9) by unfold act;rw[if_neg Af,if_pos hx,if_pos h1]]
  (refine Ai ?_)
  (refine AA ?_)
  ((dsimp only;exact⟨⟨_,(a).k.same (fun q hq=>Ac fun y hy=>Aa) Ag⟩,(.inr (.inr (.inr ⟨by decide,by decide,by decide,by decide,by decide,rfl⟩))),fun q h1 h2=>Ac fun y hy=>Aa,Ag⟩))
end AE.Tryz

/- Clerk, walked: claim. -/
namespace AE.Tryz
open Go AE Go.Proofs AE.Clerk
set_option maxRecDepth 100000
set_option linter.unusedVariables false

theorem FU {e:EG Int}{l:List (EG Int)}{a:Int}:Jy (e::l) a=if e.k=a then some e.v else Jy l a:=by
 unfold Jy
 rw[List.find?_cons]
 by_cases h:e.k=a
 ·simp[h]
 ·have:(e.k==a)=false:=by rw[beq_eq_false_iff_ne];exact h
  rw[this,if_neg h]
def FX (rs:List Rn) (a:Int):Option Nat:=rs.findIdx? fun r=>decide ((r.at_:Int)=a)
theorem Ew {r:Rn}{rs:List Rn}{a:Int}:FX (r::rs) a=if(r.at_:Int)=a then some 0 else(FX rs a).map (· +1):=by
 unfold FX
 rw[List.findIdx?_cons]
 by_cases h:(r.at_:Int)=a
 ·simp[h]
 ·simp[h]
theorem LJ {a:Int}:∀{rs:List Rn} {i:Nat},FX rs a=none->Jy (Bj rs i) a=none
 |[],i,_=>rfl
 | r ::rs,i,h=>by
   rw[Ew]at h
   split at h
   ·simp at h
   ·rename_i h1
    have ih:=LJ (i:=i+1) (show FX rs a=none by simpa using h)
    unfold Bj
    split
    ·exact ih
    ·simp only[FU,if_neg h1]
     exact ih
theorem Nr {a:Int}:∀{rs:List Rn} {i j:Nat} {r:Rn},FX rs a=some j->rs[j]? =some r->Jy (Fz rs i) a=some (.int .i64 r.no)
 |[],i,j,r,h,_=>by simp[FX]at h
 | y::rs,i,j,r,h,hr=>by
   rw[Ew]at h
   split at h
   ·rename_i h1
    simp only[Option.some.injEq]at h
    subst h
    simp only[List.getElem?_cons_zero,Option.some.injEq]at hr
    subst hr
    simp only[Fz,FU,if_pos h1]
   ·rename_i h1
    obtain⟨j',hj,rfl⟩:=Option.map_eq_some_iff.1 h
    simp only[Fz,FU,if_neg h1]
    exact Nr hj (by simpa using hr)
theorem OX {a:Nat}:∀{rs:List Rn},a∉rs.map Rn.at_->FX rs (a:Int)=none
 |[],_=>rfl
 | y::rs,h=>by
   simp only[List.map_cons,List.mem_cons,not_or]at h
   rw[Ew,if_neg Af,OX h.2]
   rfl
theorem LI {a:Int}:∀{rs:List Rn} {i j:Nat} {r:Rn},(rs.map Rn.at_).Nodup->FX rs a=some j->rs[j]? =some r->Jy (Bj rs i) a=if r.back then none else some (.int .i64 r.cost)
 |[],i,j,r,_,h,_=>by simp[FX]at h
 | y ::rs,i,j,r,hn,h,hr=>by
   simp only[List.map_cons,List.nodup_cons]at hn
   rw[Ew]at h
   split at h
   ·rename_i h1
    simp only[Option.some.injEq]at h
    subst h
    simp only[List.getElem?_cons_zero,Option.some.injEq]at hr
    subst hr
    unfold Bj
    split
    ·subst h1
     exact LJ (OX hn.1)
    ·simp only[FU,if_pos h1]
   ·rename_i h1
    obtain⟨j',hj,rfl⟩:=Option.map_eq_some_iff.1 h
    have ih:=LI (i:=i+1) hn.2 hj (show rs[j']? =some r by simpa using hr)
    unfold Bj
    split
    ·exact ih
    ·simp only[FU,if_neg h1]
     exact ih
theorem RZ:∀{rs:List Rn}{i j:Nat}{r:Rn},rs[j]? =some r->Fz (rs.set j {r with back:=true}) i=Fz rs i
 |[],_,_,_,h=>by simp at h
 | y::rs,i,0,r,h=>by
   simp only[List.getElem?_cons_zero,Option.some.injEq]at h
   subst h
   rfl
 | y::rs,i,j+1,r,h=>by
   simp only[List.set_cons_succ,Fz]
   rw[RZ (show rs[j]? =some r by simpa using h)]
theorem Ib {a:Nat}:∀{rs:List Rn} {i:Nat},a∉rs.map Rn.at_->(Bj rs i).filter (fun y=>!(y.k==(a:Int)))=Bj rs i:=by
 intro rs i h
 rw[List.filter_eq_self]
 intro e he
 obtain⟨⟨r,hr,e1⟩, -⟩:=EH he
 have:e.k≠(a:Int):=fun e2=>h (List.mem_map.2 ⟨r,hr,by omega⟩)
 simp[this]
theorem Mj {a:Int}:∀{rs:List Rn} {i j:Nat} {r:Rn},(rs.map Rn.at_).Nodup->FX rs a=some j->rs[j]? =some r->(Bj rs i).filter (fun y=>!(y.k==a))=Bj (rs.set j {r with back:=true}) i
 |[],i,j,r,_,h,_=>by simp[FX]at h
 | y ::rs,i,j,r,hn,h,hr=>by
   simp only[List.map_cons,List.nodup_cons]at hn
   rw[Ew]at h
   split at h
   ·rename_i h1
    simp only[Option.some.injEq]at h
    subst h
    simp only[List.getElem?_cons_zero,Option.some.injEq]at hr
    subst hr
    subst h1
    simp only[List.set_cons_zero,Bj]
    split
    ·simp only[if_true]
     exact Ib hn.1
    ·simp only[if_true,List.filter_cons,beq_self_eq_true,Bool.not_true,Bool.false_eq_true,if_false]
     exact Ib hn.1
   ·rename_i h1
    obtain⟨j',hj,rfl⟩:=Option.map_eq_some_iff.1 h
    have ih:=Mj (i:=i+1) hn.2 hj (show rs[j']? =some r by simpa using hr)
    simp only[List.set_cons_succ,Bj]
    split
    ·exact ih
    ·have:(((y.at_:Nat):Int)==a)=false:=by rw[beq_eq_false_iff_ne];exact h1
     simp only[List.filter_cons,this,Bool.not_false,if_true,ih]
theorem GF:∀{rs:List Rn}{i:Nat},(rs.map Rn.at_).Nodup->((Bj rs i).map EG.k).Nodup
 |[],_,_=>by simp[Bj]
 | y::rs,i,hn=>by
   simp only[List.map_cons,List.nodup_cons]at hn
   unfold Bj
   split
   ·exact GF hn.2
   ·simp only[List.map_cons,List.nodup_cons]
    refine⟨fun h=>?_,GF hn.2⟩
    obtain⟨e,he,hk⟩:=List.mem_map.1 h
    obtain⟨⟨r,hr,e1⟩, -⟩:=EH he
    exact hn.1 (List.mem_map.2 ⟨r,hr,by omega⟩)
theorem da {L:LP}{h:H}{ps:Nat->Nat}{s:St}{t lo at_ p i:Nat}{m:CU}{x:Ln}(a:aM L h ps s t lo p i m) (hx:x.k=7) (hxa:0<=x.a/\x.a<=59):
 AW Tryz.prog 203 lo h [CF L.g,CF p,.agg ⟨x.cells⟩,.int .i64 at_] (fun v h'=>LW L h (act x at_ s i m).1 (act x at_ s i m).2 v h'):=by
 have k:=a.k
 obtain⟨o1,o2,o3,o4,o5⟩:=k.ord
 obtain⟨p1,p2,kp⟩:=a.row
 have hlo:=a.lo
 have kg:=k.g
 have kc:h.get L.g2=some (.map ((Bj s.rs 0).map (EG.ent fun k:Int=>Value.int .i64 k)) s.rs.length):=k.c
 have ko:h.get L.g3=some (.map ((Fz s.rs 0).map (EG.ent fun k:Int=>Value.int .i64 k)) s.rs.length):=k.o
 have b3:=a.jE
 have ht:=a.t60
 obtain⟨w1,w2,w3,w4,w5,w6,w7,w8,w9⟩:=b3
 refine hY.call rfl Af ?_
 unfold a203 Ln.cells CF
 unfold Cq at kp
 have N5:act x at_ s i m=match FX s.rs x.a with
  |none=>(s,23)
  | some j=>match s.rs[j]? with
    |none=>(s,23)
    |some r=>if r.cost=0\/r.back=true\/r.no≠x.m then(s,23)else(⟨s.BS,s.lost,s.ms.set i {m with claimed:=m.claimed+r.cost},s.rs.set j {r with back:=true}⟩,0):=by
  unfold act
  rw[if_neg Af,if_neg Af,if_neg Af,if_neg Af,if_neg Af]
  rfl
 (refine Ai ?_)
 apply bF (r:=L.g2) (es:=Bj s.rs 0) (c:=s.rs.length) (k:=x.a) (Gm.i64 Tryz.underlying3)
 focus exact rfl
 focus exact rfl
 focus(exact Aa)
 cases hj:FX s.rs x.a with
 | none=>
   rw[LJ hj]
   rw[show act x at_ s i m=(s,23) by rw[N5,hj]]
   (refine Ai ?_)
   (refine AA ?_)
   ((dsimp only;exact⟨⟨_,(a).k.same (fun q hq=>Ac fun y hy=>Aa) Ag⟩,(.inr (.inr (.inr ⟨by decide,by decide,by decide,by decide,by decide,rfl⟩))),fun q h1 h2=>Ac fun y hy=>Aa,Ag⟩))
 | some j=>
   obtain⟨r,hr⟩:∃r,s.rs[j]? =some r:=by
    have:=(List.findIdx?_eq_some_iff_getElem.1 hj).1
    exact⟨_,List.getElem?_eq_getElem this⟩
   rw[hj]at N5
   simp only[hr]at N5
   have VE:=a.ok.rs r (List.mem_of_getElem? hr)
   rw[LI a.ok.rn hj hr]
   by_cases hb:r.back=true
   ·rw[if_pos hb]
    rw[show act x at_ s i m=(s,23) by rw[N5,if_pos (.inr (.inl hb))]]
    (refine Ai ?_)
    (refine AA ?_)
    ((dsimp only;exact⟨⟨_,(a).k.same (fun q hq=>Ac fun y hy=>Aa) Ag⟩,(.inr (.inr (.inr ⟨by decide,by decide,by decide,by decide,by decide,rfl⟩))),fun q h1 h2=>Ac fun y hy=>Aa,Ag⟩))
   rw[if_neg hb]
   by_cases hc:r.cost=0
   ·rw[show act x at_ s i m=(s,23) by rw[N5,if_pos (.inl hc)]]
    rw[hc]
    (refine Ai ?_)
    (refine AA ?_)
    ((dsimp only;exact⟨⟨_,(a).k.same (fun q hq=>Ac fun y hy=>Aa) Ag⟩,(.inr (.inr (.inr ⟨by decide,by decide,by decide,by decide,by decide,rfl⟩))),fun q h1 h2=>Ac fun y hy=>Aa,Ag⟩))
   simp only[Option.getD_some,Option.isSome_some]
   (refine Ai ?_)
   apply Qm (r:=L.g3) (es:=Fz s.rs 0) (c:=s.rs.length) (k:=x.a) (Gm.i64 Tryz.underlying3)
   focus exact rfl
   focus exact rfl
   focus(exact Aa)
   rw[Nr hj hr]
   simp only[Option.getD_some]
   by_cases hno:r.no=x.m
   ·rw[show act x at_ s i m=(⟨s.BS,s.lost,s.ms.set i {m with claimed:=m.claimed+r.cost},s.rs.set j {r with back:=true}⟩,0) by rw[N5,if_neg (fun h=>h.elim hc fun h=>h.elim hb fun h=>h hno)]]
    (refine Ai ?_)
    refine Dj.mk (cU (r:=L.g2) (es:=Bj s.rs 0) (c:=s.rs.length) (k:=x.a) (Gm.i64 Tryz.underlying3) rfl rfl Af Aa (GF a.ok.rn)) ?_
    rw[LI a.ok.rn hj hr,if_neg hb,Mj a.ok.rn hj hr]
    simp only[Option.isSome_some,if_true]
    (refine Ai ?_)
    (refine AA ?_)
    try dsimp only
    refine⟨⟨_,a.k.step a.hm (by rfl) rfl Aa D6 ?_ ?_ (by rw[<-a.hp];(try dsimp only[Cq]);(exact Aa)) (fun q h1 h2 h3=>by rw[<-a.hp]at h3;exact Ac fun y hy=>Aa) Ag⟩,.inl ⟨rfl,rfl⟩,fun q h1 h2=>Ac fun y hy=>Aa,Ag⟩
    ·try dsimp only
     rw[List.length_set]
     unfold JW
     (exact Aa)
    ·try dsimp only
     rw[List.length_set,RZ hr]
     exact Eq.trans D6 ko
   ·rw[show act x at_ s i m=(s,23) by rw[N5,if_pos (.inr (.inr hno))]]
    (refine Ai ?_)
    (refine AA ?_)
    ((dsimp only;exact⟨⟨_,(a).k.same (fun q hq=>Ac fun y hy=>Aa) Ag⟩,(.inr (.inr (.inr ⟨by decide,by decide,by decide,by decide,by decide,rfl⟩))),fun q h1 h2=>Ac fun y hy=>Aa,Ag⟩))
end AE.Tryz

/- Clerk: bills, in plain words. -/
namespace AE
open Go
theorem Uj {N:Nat}{h:H}{r:Nat}{c:List Value}{e:TypeId}(hr:r<N) (hc:∀J:Al,BH (J.below N) c):Kept N h r (.cells c e):=by
 refine .inr (.inr fun J w k=>?_)
 obtain⟨i,b,e1,e2,e3⟩:=k
 exact⟨hc J,b,(Al.Cz hr).trans e1,e2,by rw[e3,((J.below_le N).Ah c (hc J)).1]⟩
theorem Zc {N:Nat}{h:H}{r n:Nat}{es:List MapEntry}(hr:r<N) (hc:∀J:Al,∀e∈es,In (J.below N) e.key/\In (J.below N) e.val):Kept N h r (.map es n):=by
 refine .inr (.inr fun J w k=>?_)
 obtain⟨i,b,e1,e2,e3⟩:=k
 refine⟨hc J,b,(Al.Cz hr).trans e1,e2,?_⟩
 rw[e3]
 congr 3
 refine List.map_congr_left fun e he=>?_
 have hb:=J.below_le N
 unfold B0
 rw[((J.below_le N).ren e.key (hc J e he).1).1,((J.below_le N).ren e.val (hc J e he).2).1]
section
variable {P:Program}{lo Av:Nat}{ts:Ts}{h:H}{K:Value->H->Prop}{kt:TypeId}{m x y:AP}{es:List (EG Int)}{c r:Nat}
theorem YC {es:List MapEntry}(hm:ev ts m= .map (some r)) (hg:h.get r=some (.map es c)) (hr:K (.pointer (some ⟨Av,0,none⟩)) (h.put Av (.iter r c [] c))):Dj P lo Av ts h (.EN m) K:=
 Dj.mk (bY hm hg) hr
end
end AE
namespace AE.Tryz
open Go AE Go.Proofs AE.Clerk
set_option maxRecDepth 100000
set_option linter.unusedVariables false

def Ih (no a:Int) (seen:List Nat):List Rn->Nat->List Rn
 |[],_=>[]
 |r::rs,i=>(if i∈seen then Cy no a r else r)::Ih no a seen rs (i+1)
theorem Gh (no a:Int) (r:Rn):(Cy no a r).at_=r.at_:=by unfold Cy;split<;>rfl
theorem Gg (no a:Int) (r:Rn):(Cy no a r).back=r.back:=by unfold Cy;split<;>rfl
theorem S9 (no a:Int) (r:Rn):(Cy no a r).no=r.no:=by unfold Cy;split<;>rfl
theorem Vb (no a:Int):∀(rs:List Rn) (i:Nat),Ih no a [] rs i=rs
 |[],_=>rfl
 |r::rs,i=>by simp[Ih,Vb no a rs (i+1)]
theorem Qh (no a:Int) (seen:List Nat):∀(rs:List Rn) (i:Nat),(Ih no a seen rs i).length=rs.length
 |[],_=>rfl
 |r::rs,i=>by simp[Ih,Qh no a seen rs (i+1)]
theorem TP (no a:Int) (seen:List Nat):∀(rs:List Rn) (i:Nat),(Ih no a seen rs i).map Rn.at_=rs.map Rn.at_
 |[],_=>rfl
 | r::rs,i=>by
   simp only[Ih,List.map_cons,TP no a seen rs (i+1)]
   congr 1
   split
   ·exact Gh no a r
   ·rfl
theorem RY (no a:Int):∀(rs:List Rn) (j:Nat),Fz (rs.map (Cy no a)) j=Fz rs j
 |[],_=>rfl
 |r::rs,j=>by simp only[List.map_cons,Fz,RY no a rs (j+1),Gh,S9]
theorem Qi {no a:Int}{seen:List Nat}:∀{rs:List Rn} {i j:Nat} {r:Rn},rs[j]? =some r->(Ih no a seen rs i)[j]? =some (if i+j∈seen then Cy no a r else r)
 |[],_,_,_,h=>by simp at h
 | y::rs,i,0,r,h=>by
   simp only[List.getElem?_cons_zero,Option.some.injEq]at h
   subst h
   simp[Ih]
 | y::rs,i,j+1,r,h=>by
   simp only[Ih,List.getElem?_cons_succ]
   rw[Qi (i:=i+1) (show rs[j]? =some r by simpa using h),show i+1+j=i+(j+1) by omega]
theorem Hl {e:EG Int}:∀{rs:List Rn} {i:Nat},e∈Bj rs i->∃j r,rs[j]? =some r/\r.back=false/\e=⟨(r.at_:Nat),.int .i64 r.cost,i+j⟩
 |[],i,h=>by simp[Bj]at h
 | y ::rs,i,h=>by
   unfold Bj at h
   split at h
   ·obtain⟨j,r,h1,h2,h3⟩:=Hl h
    exact⟨j+1,r,by simpa using h1,h2,by rw[h3];congr 1;omega⟩
   ·rename_i hb
    rcases List.mem_cons.1 h with rfl|h
    ·exact⟨0,y,rfl,by simpa using hb,rfl⟩
    ·obtain⟨j,r,h1,h2,h3⟩:=Hl h
     exact⟨j+1,r,by simpa using h1,h2,by rw[h3];congr 1;omega⟩
theorem ZS {rs:List Rn}:∀{i j:Nat} {r:Rn},rs[j]? =some r->r.back=false->(⟨(r.at_:Nat),.int .i64 r.cost,i+j⟩:EG Int)∈Bj rs i:=by
 induction rs with
 |nil=>intro i j r h;simp at h
 | cons y rs ih=>
   intro i j r h hb
   cases j with
   | zero=>
     simp only[List.getElem?_cons_zero,Option.some.injEq]at h
     subst h
     unfold Bj
     rw[hb]
     simp
   | succ j=>
     have:=ih (i:=i+1) (show rs[j]? =some r by simpa using h) hb
     rw[show i+1+j=i+(j+1) by omega]at this
     unfold Bj
     split
     ·exact this
     ·exact List.mem_cons_of_mem _ this
theorem HN:∀{rs:List Rn}{i:Nat},((Bj rs i).map EG.b).Nodup
 |[],_=>by simp[Bj]
 | y::rs,i=>by
   unfold Bj
   split
   ·exact HN
   ·simp only[List.map_cons,List.nodup_cons]
    refine⟨fun h=>?_,HN⟩
    obtain⟨e,he,hb⟩:=List.mem_map.1 h
    obtain⟨j,r, -, -,rfl⟩:=Hl he
    simp at hb
    omega
theorem Nl:∀{rs:List Rn}{j:Nat}{r:Rn},(rs.map Rn.at_).Nodup->rs[j]? =some r->FX rs (r.at_:Nat)=some j
 |[],_,_,_,h=>by simp at h
 | y::rs,0,r,hn,h=>by
   simp only[List.getElem?_cons_zero,Option.some.injEq]at h
   subst h
   rw[Ew,if_pos rfl]
 | y::rs,j+1,r,hn,h=>by
   simp only[List.map_cons,List.nodup_cons]at hn
   have h':rs[j]? =some r:=by simpa using h
   have:(y.at_:Int)≠(r.at_:Nat):=fun e=>hn.1 (List.mem_map.2 ⟨r,List.mem_of_getElem? h',by omega⟩)
   rw[Ew,if_neg this,Nl hn.2 h']
   rfl
theorem Kn {no a:Int}{seen:List Nat}:∀{rs:List Rn} {i:Nat} {b:Nat},(∀j r,rs[j]? =some r->i+j=b->Cy no a r=r)->Ih no a (seen++[b]) rs i=Ih no a seen rs i
 |[],_,_,_=>rfl
 | y::rs,i,b,h=>by
   have ih:=Kn (no:=no) (a:=a) (seen:=seen) (rs:=rs) (i:=i+1) (b:=b) (fun j r hr he=>h (j+1) r (by simpa using hr) Af)
   simp only[Ih,ih]
   congr 1
   by_cases hb:i=b
   ·have:=h 0 y rfl Af
    rw[if_pos (by simp[hb]),this]
    split<;>rfl
   ·have:(i∈seen++[b])↔i∈seen:=by simp[hb]
    simp only[this]
theorem PF {no a:Int}{seen:List Nat}:∀{rs:List Rn} {i j:Nat} {r:Rn},(rs.map Rn.at_).Nodup->rs[j]? =some r->r.back=false->Nh (Bj (Ih no a seen rs i) i) ((r.at_:Nat):Int) (.int .i64 (Cy no a r).cost)=Bj (Ih no a (seen++[i+j]) rs i) i
 |[],_,_,_,_,h,_=>by simp at h
 | y::rs,i,0,r,hn,h,hb=>by
   simp only[List.getElem?_cons_zero,Option.some.injEq]at h
   subst h
   simp only[List.map_cons,List.nodup_cons]at hn
   have e1:Ih no a (seen++[i+0]) rs (i+1)=Ih no a seen rs (i+1):=Kn fun j r hr he=>by omega
   have e2:Nh (Bj (Ih no a seen rs (i+1)) (i+1)) ((y.at_:Nat):Int) (.int .i64 (Cy no a y).cost)=Bj (Ih no a seen rs (i+1)) (i+1):=RD fun e he hk=>by
    obtain⟨⟨r,hr,e3⟩, -⟩:=EH he
    have:r.at_∈rs.map Rn.at_:=by rw[<-TP no a seen rs (i+1)];exact List.mem_map_of_mem hr
    exact hn.1 (by rw[show y.at_=r.at_ by omega];exact this)
   simp only[Ih,e1]
   rw[if_pos (show i∈seen++[i+0] by simp)]
   have b1:(if i∈seen then Cy no a y else y).back=false:=by split<;>simp[Gg,hb]
   have a1:(if i∈seen then Cy no a y else y).at_=y.at_:=by split<;>simp[Gh]
   simp only[Bj,b1,Gg,hb,Bool.false_eq_true,if_false,a1,Gh]
   unfold Nh at e2⊢
   rw[List.map_cons,e2]
   simp
 | y::rs,i,j+1,r,hn,h,hb=>by
   have h':rs[j]? =some r:=by simpa using h
   simp only[List.map_cons,List.nodup_cons]at hn
   have ih:=PF (no:=no) (a:=a) (seen:=seen) (i:=i+1) hn.2 h' hb
   rw[show i+1+j=i+(j+1) by omega]at ih
   have:(i∈seen++[i+(j+1)])↔i∈seen:=by simp
   simp only[Ih,this]
   have hne:y.at_≠r.at_:=fun e=>hn.1 (List.mem_map.2 ⟨r,List.mem_of_getElem? h',e.symm⟩)
   have a1:(if i∈seen then Cy no a y else y).at_=y.at_:=by split<;>simp[Gh]
   generalize (if i∈seen then Cy no a y else y)=z at a1⊢
   simp only[Bj]
   split
   ·exact ih
   ·unfold Nh at ih⊢
    rw[List.map_cons,ih]
    congr 1
    have:((z.at_:Nat):Int)≠((r.at_:Nat):Int):=by rw[a1];omega
    rw[if_neg (by simpa using this)]
theorem PI {no a:Int}{seen:List Nat}:∀{rs:List Rn} {i:Nat},(∀j r,rs[j]? =some r->r.back=false->i+j∈seen)->Bj (Ih no a seen rs i) i=Bj (rs.map (Cy no a)) i
 |[],_,_=>rfl
 | y::rs,i,h=>by
   have ih:=PI (no:=no) (a:=a) (seen:=seen) (rs:=rs) (i:=i+1) (fun j r hr hb=>by
    have:=h (j+1) r (by simpa using hr) hb
    rwa [show i+1+j=i+(j+1) by omega])
   simp only[Ih,List.map_cons,Bj,ih]
   by_cases hb:y.back=false
   ·have hs:i∈seen:=by have:=h 0 y rfl hb;simpa using this
    simp only[if_pos hs]
   ·have hb':y.back=true:=by simpa using hb
    have b1:(if i∈seen then Cy no a y else y).back=true:=by split<;>simp[Gg,hb']
    rw[if_pos b1,if_pos (by rw[Gg];exact hb')]
end AE.Tryz
