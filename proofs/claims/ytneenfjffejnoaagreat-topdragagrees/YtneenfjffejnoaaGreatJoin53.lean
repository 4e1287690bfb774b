/- Walks and plain laws: TDragA, TDragB, TDragC, TDragD. -/
import Derived.Test.YtneenfjffejnoaaGreatT9Code
import Derived.Test.YtneenfjffejnoaaGreatAEthree
import Derived.Test.YtneenfjffejnoaaGreatJoin56
set_option linter.unusedVariables false
set_option linter.unusedSimpArgs false
set_option linter.unusedSectionVars false

/- Walks of drag and its reference: bounds, lines. -/
namespace AE.Tryz
open Go AE AE.Drag Go.Proofs
set_option maxRecDepth 100000

theorem ki {h:H}{n lo hi:Int}:AW Tryz.prog 59 h.next h [.int .i64 n,.int .i64 lo,.int .i64 hi] (fun v _=>v= .bool (decide (lo<=n/\n<=hi))):=by
 refine Afi.call rfl (Nat.le_refl _) ?_
 unfold a59
 (focus((try with_reducible apply wpC.to);(repeat'((conv=>whnf);first|refine Ak ?_|(apply Fork.mk<;>(intro _;try(exfalso;omega)))|fail));all_goals((conv=>whnf);try with_reducible apply At.mk)))
 all_goals((refine Au ?_);first|exact CI rfl Al|exact Ch rfl Al)
theorem lq {h:H}{a b lo hi:Int}:AW Tryz.prog 60 h.next h [.agg ⟨[.int .i64 a,.int .i64 b]⟩,.int .i64 lo,.int .i64 hi] (fun v _=>v= .bool (decide (lo<=a/\a<=b/\b<=hi))):=by
 refine Afh.call rfl (Nat.le_refl _) ?_
 unfold a60
 (focus((try with_reducible apply wpC.to);(repeat'((conv=>whnf);first|refine Ak ?_|(apply Fork.mk<;>(intro _;try(exfalso;omega)))|fail));all_goals((conv=>whnf);try with_reducible apply At.mk)))
 all_goals((refine Au ?_);first|exact CI rfl Al|exact Ch rfl Al)
theorem SU {G:Prop}(g:G:=by(exact ki)):G:=g
theorem nH {G:Prop}(g:G:=by(exact lq)):G:=g
theorem jI {h:H}{n lo hi:Int}:AW Tryz.prog 211 h.next h [.int .i64 n,.int .i64 lo,.int .i64 hi] (fun v _=>v= .agg ⟨[.int .i64 n,.int .i64 n,.int .i64 lo,.int .i64 hi]⟩):=by
 refine zF.call rfl (Nat.le_refl _) ?_
 unfold Ah6
 (focus((try with_reducible apply wpC.to);(repeat'((conv=>whnf);first|refine Ak ?_|fail));all_goals((conv=>whnf);try with_reducible apply At.mk)))
 all_goals((refine Au ?_);rfl)
theorem SS {G:Prop}(g:G:=by(exact jI)):G:=g
theorem gT {h:H}{b:Option Addr}{n c:Nat}:AW Tryz.prog 294 h.next h [.slice b n c] (fun v h'=>∃r,v= .func (.func 361) ⟨[]⟩ ⟨[.pointer (some ⟨r,0,none⟩)]⟩/\h.next<=r/\r<h'.next/\h'.get r=some (.cells [.slice b n c] 423)):=by
 refine yZ.call rfl (Nat.le_refl _) ?_
 unfold Ahq
 (focus((try with_reducible apply wpC.to);(repeat'((conv=>whnf);first|refine Ak ?_|fail));all_goals((conv=>whnf);try with_reducible apply At.mk)))
 all_goals(refine Au ?_)
 refine⟨_,rfl,?_,?_,?_⟩
 ·(exact Ah)
 ·(exact Ah)
 ·(exact Aa)
theorem Tx {h:H}{b:Option Addr}{n c:Nat}:AW Tryz.prog 210 h.next h [.slice b n c] (fun v h'=>∃r,v= .func (.func 361) ⟨[]⟩ ⟨[.pointer (some ⟨r,0,none⟩)]⟩/\h.next<=r/\r<h'.next/\h'.get r=some (.cells [.slice b n c] 423)):=by
 refine zG.call rfl (Nat.le_refl _) ?_
 unfold a210
 (focus((try with_reducible apply wpC.to);(repeat'((conv=>whnf);first|refine Ak ?_|fail));all_goals((conv=>whnf);try with_reducible apply At.mk)))
 apply Ar
 focus(exact Ao)
 focus omega
 focus exact gT
 rintro _ h1 ⟨r,rfl,hr1,hr2,hg⟩ q hn
 (focus((try with_reducible apply wpC.to);(repeat'((conv=>whnf);first|refine Ak ?_|fail));all_goals((conv=>whnf);try with_reducible apply At.mk)))
 all_goals(refine Au ?_)
 refine⟨_,rfl,?_,?_,?_⟩
 ·(exact Ah)
 ·(exact Ah)
 ·(exact Aa)

structure Bd where
 a:Int
 b:Int
 lo:Int
 hi:Int
def Bd.cells (x:Bd):List Value:=[.int .i64 x.a,.int .i64 x.b,.int .i64 x.lo,.int .i64 x.hi]
def Bd.ok (x:Bd):Prop:=x.lo<=x.a/\x.a<=x.b/\x.b<=x.hi

theorem yc {h:H}{lo:Nat}{yv:Value}{r n c:Nat}{a:Addr}{f:Nat->Bd}(hlo:lo<=h.next) (hr:r<lo) (hg:h.get r=some (.cells [.slice (some a) n c] 423)) (ha:a.block<lo) (hn:n<1000000000000000)
 (he:JP h a n 4 (fun i=>(f i).cells)) (Inv:Nat->H->Prop) (Done:H->Prop) (hst:∀i h1 h2,Inv i h1->Quiet h1.next h1 h2->Inv i h2)
 (hy:∀i h1,i<n->Inv i h1->lo<=h1.next->∃v h2,(∃b,v= .bool b/\(b=true->Inv (i+1) h2)/\(b=false->Done h2))/\CX Tryz.prog yv lo h1 [.agg ⟨(f i).cells⟩] v h2) (h0:Inv 0 h):
 AW Tryz.prog 361 lo h [yv,.pointer (some ⟨r,0,none⟩)] (fun _ h'=>Inv n h'\/Done h'):=by
 refine yS.call rfl hlo ?_
 unfold Ahj
 (focus((try with_reducible apply wpC.to);(repeat'((conv=>whnf);first|refine Ak ?_|(apply Fork.mk<;>(intro _;try(exfalso;omega)))|fail));all_goals((conv=>whnf);try with_reducible apply At.mk)))
 refine wp_loop (fun s:Nat=>[(0,yv),(5,.slice (some a) n c),(6,.int .i64 n),(7,.int .i64 s)]) (fun s h1=>Inv s h1/\Quiet lo h h1/\s<=n) (fun s=>n - s) 0 ⟨rfl,rfl,rfl,rfl,trivial⟩ ⟨?_,?_,by omega⟩ ?_
 ·exact hst _ h _ h0 ⟨by simp[AY],fun _ _=>rfl,fun hc r hr=>hc r (by simp[AY]at hr;omega)⟩
 ·(exact AO)
 rintro s g h1 ⟨hi,q,hs⟩ K hK
 have hnx:=q.next
 (focus((try with_reducible apply wpC.to);(repeat'((conv=>whnf);first|refine Ak ?_|(apply Fork.mk<;>(intro _;try(exfalso;omega)))|fail));all_goals((conv=>whnf);try with_reducible apply At.mk)))
 ·apply Dx
  focus exact hy s _ Al (hst s h1 _ hi AO) Ah
  rintro _ h2 ⟨b,rfl,hb1,hb2⟩ q2
  have hnx2:=q2.next
  cases b with
  | true=>
    (focus((try with_reducible apply wpC.to);(repeat'((conv=>whnf);first|refine Ak ?_|(apply Fork.mk<;>(intro _;try(exfalso;omega)))|fail));all_goals((conv=>whnf);try with_reducible apply At.mk)))
    refine hK (s+1) _ _ ⟨rfl,rfl,rfl,AK rfl Al,trivial⟩ ⟨hst _ _ _ (hb1 rfl) AO,AO,by omega⟩ Al
  | false=>
    (focus((try with_reducible apply wpC.to);(repeat'((conv=>whnf);first|refine Ak ?_|(apply Fork.mk<;>(intro _;try(exfalso;omega)))|fail));all_goals((conv=>whnf);try with_reducible apply At.mk)))
    (refine Au ?_)
    exact .inr (hb2 rfl)
 ·(refine Au ?_)
  have:s=n:=by omega
  subst this
  exact .inl (hst _ _ _ hi AO)

instance (x:Bd):Decidable x.ok:=by unfold Bd.ok;infer_instance

theorem yQ {h:H}{r n c:Nat}{a:Addr}{f:Nat->Bd}(hr:r<h.next) (hg:h.get r=some (.cells [.slice (some a) n c] 423)) (ha:a.block<h.next) (hn:n<1000000000000000) (he:JP h a n 4 (fun i=>(f i).cells)):
 AW Tryz.prog 209 h.next h [.func (.func 361) ⟨[]⟩ ⟨[.pointer (some ⟨r,0,none⟩)]⟩] (fun v _=>v= .bool (decide (∀i,i<n->(f i).ok))):=by
 refine oI.call rfl (Nat.le_refl _) ?_
 unfold Ah7
 (focus((try with_reducible apply wpC.to);(repeat'((conv=>whnf);first|refine Ak ?_|(apply Fork.mk<;>(intro _;try(exfalso;omega)))|fail));all_goals((conv=>whnf);try with_reducible apply At.mk)))
 refine Dq (l:=[(0,_),(2,_),(4,_)]) ⟨rfl,rfl,rfl,trivial⟩ fun g=>?_
 apply IK
 focus exact rfl
 focus(exact Ao)
 focus(exact Jk)
 intro L0 hL0
 refine⟨_,yc (f:=f) (a:=a) (r:=r) (n:=n) (c:=c) Ah hr Aa ha hn (he.same (m:=h.next) Aq (fun _=>ha))
  (fun i h2=>h2.get (h.next+2)=some (.loop L0)/\h2.get (h.next+0)=some (.cells [.bool false] 4)/\h.next+2<h2.next/\∀j,j<i->(f j).ok)
  (fun h2=>h2.get (h.next+2)=some (.loop (ended L0 .ret))/\h2.get (h.next+0)=some (.cells [.bool false] 4)/\h.next+2<h2.next/\¬∀j,j<n->(f j).ok) ?_ ?_ ?_,?_⟩
 ·rintro i h1 h2 ⟨g1,g2,g3,g4⟩ q
  have:=q.next
  exact⟨Aa,Aa,by omega,g4⟩
 ·rintro i h1 hi ⟨g1,g2,g3,g4⟩ hle
  refine YA.call oI.mixed (A:=Xg) (B:=Xf) (L:=L0) (by rw[hL0];exact Aby) (by rw[hL0];exact Abx) g1 Al Al (by rw[hL0];exact rfl) (by rw[hL0];exact rfl) ?_
  unfold YA Xg
  refine Dq (l:=[(2,_),(5,_)]) ⟨by rw[hL0];exact rfl,by rw[hL0];exact rfl,trivial⟩ fun g=>?_
  (focus((try with_reducible apply wpC.to);(repeat'((conv=>whnf);first|refine Ak ?_|(apply Fork.mk<;>(intro _;try(exfalso;omega)))|fail));all_goals((conv=>whnf);try with_reducible apply At.mk)))
  refine⟨rfl,L0,Aa,by rw[hL0];exact rfl,?_⟩
  unfold Xf
  have hL1:ended (busy L0) .none=L0:=by rw[hL0];exact rfl
  (focus((try with_reducible apply wpC.to);(repeat'((conv=>whnf);first|refine Ak ?_|(apply Fork.mk<;>(intro _;try(exfalso;omega)))|fail));all_goals((conv=>whnf);try with_reducible apply At.mk)))
  all_goals first
   | (refine⟨.ret,_,rfl,Aa,false,rfl,by simp,fun _=>⟨Aa,Aa,Ah,fun hall=>?_⟩⟩
      have:=hall i hi
      unfold Bd.ok at this
      omega)
   | (refine⟨.none,_,rfl,Aa,true,rfl,fun _=>⟨by rw[hL1];(exact Aa),Aa,Ah,fun j hj=>?_⟩,by simp⟩
      by_cases e:j=i
      ·subst e;unfold Bd.ok;omega
      ·exact g4 j Al)
 ·exact⟨Aa,Aa,Ah,fun j hj=>by omega⟩
 ·rintro v h2 hd q
  have hnx:=q.next
  rcases hd with⟨g1,g2,g3,g4⟩|⟨g1,g2,g3,g4⟩
  ·refine⟨_,g1,by rw[hL0];simp[EX],?_⟩
   rw[hL0]
   simp only[EX,FU]
   (focus((try with_reducible apply wpC.to);(repeat'((conv=>whnf);first|refine Ak ?_|(apply Fork.mk<;>(intro _;try(exfalso;omega)))|fail));all_goals((conv=>whnf);try with_reducible apply At.mk)))
   (refine Au ?_)
   exact CI rfl g4
  ·refine⟨_,g1,by simp[ended,Ov],?_⟩
   simp only[ended,FU]
   (focus((try with_reducible apply wpC.to);(repeat'((conv=>whnf);first|refine Ak ?_|(apply Fork.mk<;>(intro _;try(exfalso;omega)))|fail));all_goals((conv=>whnf);try with_reducible apply At.mk)))
   (refine Au ?_)
   exact Ch rfl g4
end AE.Tryz

/- Walks of drag and its reference: which lines are valid. -/
namespace AE.Tryz
open Go AE AE.Drag Go.Proofs
set_option maxRecDepth 100000

inductive qT:List Value->List Bd->Prop
 |nil:qT [] []
 |cons {a b lo hi:Int} {cs:List Value} {l:List Bd} (h:qT cs l):qT (.int .i64 a:: .int .i64 b:: .int .i64 lo:: .int .i64 hi::cs) (⟨a,b,lo,hi⟩::l)
def AllOk:List Bd->Prop
 |[]=>True
 |b::l=>b.ok/\AllOk l
instance:(l:List Bd)->Decidable (AllOk l)
 |[]=>.isTrue trivial
 |b::l=>by unfold AllOk;have:=instDecidableAllOk l;infer_instance
theorem qT.len {cs:List Value}{l:List Bd}(h:qT cs l):cs.length=l.length*4:=by
 induction h with
 |nil=>rfl
 |cons _ ih=>simp only[List.length_cons,ih];omega
theorem qT.get {cs:List Value}{l:List Bd}(h:qT cs l):∀i,i<l.length->(cs.drop (i*4)).take 4=(l.getD i ⟨0,0,0,0⟩).cells:=by
 induction h with
 |nil=>intro i hi;simp at hi
 | cons h ih=>
   intro i hi
   cases i with
   |zero=>simp[Bd.cells]
   | succ i=>
     have:=ih i (by simpa using hi)
     rw[show(i+1) *4=i*4+4 by omega]
     simpa using this
theorem kC (l:List Bd):AllOk l↔∀i,i<l.length->(l.getD i ⟨0,0,0,0⟩).ok:=by
 induction l with
 |nil=>simp[AllOk]
 | cons b l ih=>
   rw[AllOk,ih]
   constructor
   ·rintro⟨h1,h2⟩ i hi
    cases i with
    |zero=>simpa using h1
    |succ i=>simpa using h2 i (by simpa using hi)
   ·intro h
    refine⟨by simpa using h 0 (by simp),fun i hi=>by simpa using h (i+1) (by simpa using hi)⟩

theorem tZ {h:H}{r s n c:Nat}{cs:List Value}{l:List Bd}(hr:r<h.next) (hg:h.get r=some (.cells [.slice (some ⟨s,0,none⟩) n c] 423)) (ha:s<h.next) (hs:h.get s=some (.cells cs 327)) (hl:qT cs l) (hn:n=l.length) (hn':l.length<1000000000000000):
 AW Tryz.prog 209 h.next h [.func (.func 361) ⟨[]⟩ ⟨[.pointer (some ⟨r,0,none⟩)]⟩] (fun v _=>v= .bool (decide (AllOk l))):=by
 subst hn
 have e:decide (AllOk l)=decide (∀i,i<l.length->((fun i=>l.getD i ⟨0,0,0,0⟩) i).ok):=by simp only[kC]
 rw[e]
 refine yQ hr hg ha hn' fun i hi=>?_
 refine CP hs ?_
 unfold cut
 have:=hl.len
 rw[if_pos (by show 0+i*4+4<=_;omega)]
 rw[show 0+i*4=i*4 by omega,hl.get i hi]
theorem SR {G:Prop}(g:G:=by((apply tZ;(focus exact Ah);(focus exact Aa);(focus exact Ah);(focus exact Aa);(focus(repeat(first|exact qT.nil|apply qT.cons)));(focus exact rfl);(focus(simp only[List.length_cons,List.length_nil];omega))))):G:=g
theorem MB {L:Line}(h:L.n<2\/12<L.n):Eg L=6:=by unfold Eg;rw[if_pos h]
theorem SK {L:Line}(h:2<=L.n) (h':L.n<=12) (e:L.m≠L.n):Eg L=15:=by unfold Eg;rw[if_neg Al,if_pos e]
theorem UT {L:Line}(h:2<=L.n) (h':L.n<=12) (e:L.m=L.n) {i:Nat}(hi:i<L.n) (hp:¬FN L i):Eg L=2:=by
 unfold Eg;rw[if_neg Al,if_neg Al,if_neg (fun k=>hp (k i hi))]
theorem UU {L:Line}(h:2<=L.n) (h':L.n<=12) (e:L.m=L.n) (hp:∀i,i<L.n->FN L i):Eg L=0:=by
 unfold Eg;rw[if_neg Al,if_neg Al,if_pos hp]

set_option maxHeartbeats 1000000 in
theorem Zk {h:H}{L:Line}{m:Nat}(hm:m<=h.next) (hL:L.Ok m h):AW Tryz.prog 212 h.next h [.agg ⟨L.cells⟩] (fun v _=>v= .int .i64 (Eg L)):=by
 obtain⟨e1,i1,r1,e2,i2,r2,l1,l2⟩:=hL
 refine zD.call rfl (Nat.le_refl _) ?_
 unfold a212
 (focus((try with_reducible apply wpC.to);(repeat'((conv=>whnf);first|refine Ak ?_|(apply Fork.mk<;>(intro _;try(exfalso;omega)))|((apply Ar);(focus exact Ao);(focus exact AQ);(focus(first|exact SR|exact SS));first|((apply Ad)<;>(intro AV _ _ _;first|exact Bool.noConfusion AV|replace AV:=of_decide_eq_true AV|replace AV:=of_decide_eq_false AV|skip)<;>((try simp only[AllOk,Bd.ok,and_true]at AV);first|contradiction|(revert AV;intros)))|((apply Ac)<;>intro _ _ _ _<;>try contradiction)|(apply Ab;intro _ _ _))|(apply Ar;(focus exact Ao);(focus omega);(focus exact Tx);rintro _ ZQ ⟨z_r,wN,Qi,Xt,kR⟩ wM ZP;subst wN;(try simp only[Bv,AY]at Qi);revert ZP wM kR Xt Qi z_r ZQ;intros)|fail));all_goals((conv=>whnf);try with_reducible apply At.mk)))
 ·(refine Au ?_)
  exact AK rfl (MB Al).symm
 ·(refine Au ?_)
  exact AK rfl (MB Al).symm
 ·(refine Au ?_)
  exact AK rfl (SK Al Al Al).symm
 have hmn:L.m=L.n:=by omega
 refine wp_loop (fun s:Nat=>[(1,.pointer (some ⟨h.next+0,0,none⟩)),(3,.int .i64 (if s=0 then 0 else L.re (s - 1))),(4,.int .i64 (if s=0 then 100000 else L.cf (s - 1))),(27,.slice L.b1 L.n L.c1),(28,.int .i64 L.n),(29,.int .i64 s)])
  (fun s h1=>h1.get (h.next+0)=some (.cells L.cells 71)/\Same h.next h h1/\h.next<h1.next/\s<=L.n/\∀i,i<s->FN L i) (fun s=>L.n - s) 0 ⟨rfl,rfl,rfl,rfl,rfl,rfl,trivial⟩ ⟨Aa,Aq,Ah,by omega,fun i hi=>by omega⟩ ?_
 rintro s g h1 ⟨g1,q,hn1,hs,hok⟩ K hK
 unfold Line.cells at g1
 have hp:∃p:Int,p=(if s=0 then 0 else L.re (s - 1))/\0<=p/\p<=1000000000:=⟨_,rfl,by
  split
  ·omega
  ·have:=hok (s - 1) Al;unfold FN at this;omega⟩
 obtain⟨p,hp,hp0,hp1⟩:=hp
 rw[<-hp]
 have hc:∃c:Int,c=(if s=0 then 100000 else L.cf (s - 1))/\c<=100000:=⟨_,rfl,by
  split
  ·omega
  ·have:=hok (s - 1) Al;unfold FN at this;omega⟩
 obtain⟨c,hc,hc1⟩:=hc
 rw[<-hc]
 (focus((try with_reducible apply wpC.to);(repeat'((conv=>whnf);first|refine Ak ?_|(apply Fork.mk<;>(intro _;try(exfalso;omega)))|((apply Ar);(focus exact Ao);(focus exact AQ);(focus(first|exact SR|exact SS));first|((apply Ad)<;>(intro AV _ _ _;first|exact Bool.noConfusion AV|replace AV:=of_decide_eq_true AV|replace AV:=of_decide_eq_false AV|skip)<;>((try simp only[AllOk,Bd.ok,and_true]at AV);first|contradiction|(revert AV;intros)))|((apply Ac)<;>intro _ _ _ _<;>try contradiction)|(apply Ab;intro _ _ _))|(apply Ar;(focus exact Ao);(focus omega);(focus exact Tx);rintro _ ZQ ⟨z_r,wN,Qi,Xt,kR⟩ wM ZP;subst wN;(try simp only[Bv,AY]at Qi);revert ZP wM kR Xt Qi z_r ZQ;intros)|fail));all_goals((conv=>whnf);try with_reducible apply At.mk)))
 ·apply hK (s+1)
  ·refine⟨rfl,AK rfl (by simp),AK rfl (by simp),rfl,rfl,AK rfl Al,trivial⟩
  ·refine⟨Aa,Aq,Ah,by omega,fun i hi=>?_⟩
   by_cases e:i=s
   ·subst e
    unfold FN
    refine⟨by omega,by omega,by omega,by omega,?_⟩
    intro hi0
    rw[if_neg Al]at hp hc
    omega
   ·exact hok i Al
  ·omega
 ·(refine Au ?_)
  refine AK rfl (UT Al Al hmn (i:=s) Al ?_).symm
  unfold FN
  split at hp
  ·rename_i h0;subst h0;rw[if_pos rfl]at hc;omega
  ·rename_i h0;rw[if_neg h0]at hc;omega
 ·(refine Au ?_)
  have:s=L.n:=by omega
  subst this
  exact AK rfl (UU Al Al hmn hok).symm
theorem LV {G:Prop}(g:G:=by((apply AW.arg1;(focus(apply Zk;rotate_left;(focus(apply Line.Ok.same;(focus assumption);(focus exact Aq);(focus exact Nat.le_refl _)));(focus exact Ah)));(focus exact Is.rfl)))):G:=g
set_option maxHeartbeats 1000000 in
theorem Sj {h:H}{L:Line}{m:Nat}(hm:m<=h.next) (hL:L.Ok m h):AW Tryz.prog 22 h.next h [.agg ⟨L.cells⟩] (fun v _=>v= .int .i64 (Eg L)):=by
 obtain⟨e1,i1,r1,e2,i2,r2,l1,l2⟩:=hL
 refine Agf.call rfl (Nat.le_refl _) ?_
 unfold a22
 (focus((try with_reducible apply wpC.to);(repeat'((conv=>whnf);first|refine Ak ?_|(apply Fork.mk<;>(intro _;try(exfalso;omega)))|((apply Ar);(focus exact Ao);(focus exact AQ);(focus(exact SU));first|((apply Ad)<;>(intro AV _ _ _;first|exact Bool.noConfusion AV|replace AV:=of_decide_eq_true AV|replace AV:=of_decide_eq_false AV|skip)<;>((try simp only[AllOk,Bd.ok,and_true]at AV);first|contradiction|(revert AV;intros)))|((apply Ac)<;>intro _ _ _ _<;>try contradiction)|(apply Ab;intro _ _ _))|fail));all_goals((conv=>whnf);try with_reducible apply At.mk)))
 ·(refine Au ?_)
  exact AK rfl (MB Al).symm
 ·(refine Au ?_)
  exact AK rfl (MB Al).symm
 ·(refine Au ?_)
  exact AK rfl (SK Al Al Al).symm
 have hmn:L.m=L.n:=by omega
 refine wp_loop (fun s:Nat=>[(1,.pointer (some ⟨h.next+0,0,none⟩)),(3,.int .i64 s)])
  (fun s h1=>h1.get (h.next+0)=some (.cells L.cells 71)/\Same h.next h h1/\h.next<h1.next/\s<=L.n/\∀i,i<s->FN L i) (fun s=>L.n - s) 0 ⟨rfl,rfl,trivial⟩ ⟨Aa,Aq,Ah,by omega,fun i hi=>by omega⟩ ?_
 rintro s g h1 ⟨g1,q,hn1,hs,hok⟩ K hK
 unfold Line.cells at g1
 (focus((try with_reducible apply wpC.to);(repeat'((conv=>whnf);first|refine Ak ?_|(apply Fork.mk<;>(intro _;try(exfalso;omega)))|((apply Ar);(focus exact Ao);(focus exact AQ);(focus(exact SU));first|((apply Ad)<;>(intro AV _ _ _;first|exact Bool.noConfusion AV|replace AV:=of_decide_eq_true AV|replace AV:=of_decide_eq_false AV|skip)<;>((try simp only[AllOk,Bd.ok,and_true]at AV);first|contradiction|(revert AV;intros)))|((apply Ac)<;>intro _ _ _ _<;>try contradiction)|(apply Ab;intro _ _ _))|fail));all_goals((conv=>whnf);try with_reducible apply At.mk)))
 all_goals first
  |((refine Au ?_);exact AK rfl (UT Al Al hmn (i:=s) Al (by unfold FN;omega)).symm)
  | ((refine Au ?_)
     have:s=L.n:=by omega
     subst this
     exact AK rfl (UU Al Al hmn hok).symm)
  | (refine hK (s+1) _ _ ⟨rfl,AK rfl Al,trivial⟩ ⟨Aa,Aq,Ah,by omega,fun i hi=>?_⟩ Al
     by_cases e:i=s
     ·subst e;unfold FN;omega
     ·exact hok i Al)
theorem DK {G:Prop}(g:G:=by((apply AW.arg1;(focus(apply Sj;rotate_left;(focus(apply Line.Ok.same;(focus assumption);(focus exact Aq);(focus exact Nat.le_refl _)));(focus exact Ah)));(focus exact Is.rfl)))):G:=g
end AE.Tryz

/- Walks of drag and its reference: the friction of a line. -/
namespace AE.Tryz
open Go AE AE.Drag Go.Proofs
set_option maxRecDepth 100000

theorem xN {h:H}{x:Int}:AW Tryz.prog 354 h.next h [.int .i64 x] (fun v _=>v= .bool false):=by
 refine yU.call rfl (Nat.le_refl _) ?_
 unfold Ahl
 (focus((try with_reducible apply wpC.to);(repeat'((conv=>whnf);first|refine Ak ?_|(apply Fork.mk<;>(intro _;try(exfalso;omega)))|fail));all_goals((conv=>whnf);try with_reducible apply At.mk)))
 all_goals((refine Au ?_);rfl)
theorem xM {h:H}{x:Int}:AW Tryz.prog 396 h.next h [.int .i64 x] (fun v _=>v= .bool false):=by
 refine yR.call rfl (Nat.le_refl _) ?_
 unfold Ahi
 (focus((try with_reducible apply wpC.to);(repeat'((conv=>whnf);first|refine Ak ?_|(apply Fork.mk<;>(intro _;try(exfalso;omega)))|fail));all_goals((conv=>whnf);try with_reducible apply At.mk)))
 all_goals((refine Au ?_);rfl)
theorem nG {G:Prop}(g:G:=by(exact xN)):G:=g
theorem SQ {G:Prop}(g:G:=by(exact xM)):G:=g
theorem xU {h:H}{x y:Int}:AW Tryz.prog 278 h.next h [.int .i64 x,.int .i64 y] (fun v _=>v= .bool (decide (x<y))):=by
 refine y9.call rfl (Nat.le_refl _) ?_
 unfold Ahv
 (focus((try with_reducible apply wpC.to);(repeat'((conv=>whnf);first|refine Ak ?_|(apply Fork.mk<;>(intro _;try(exfalso;omega)))|((apply Ar);(focus exact Ao);(focus exact AQ);(focus(exact nG));first|((apply Ad)<;>(intro AV _ _ _;first|exact Bool.noConfusion AV|replace AV:=of_decide_eq_true AV|replace AV:=of_decide_eq_false AV|skip)<;>((try simp only[AllOk,Bd.ok,and_true]at AV);first|contradiction|(revert AV;intros)))|((apply Ac)<;>intro _ _ _ _<;>try contradiction)|(apply Ab;intro _ _ _))|fail));all_goals((conv=>whnf);try with_reducible apply At.mk)))
 all_goals((refine Au ?_);first|exact CI rfl Al|exact Ch rfl Al)
theorem SN {G:Prop}(g:G:=by(exact xU)):G:=g
theorem l8 {h:H}{b:Option Addr}{a:Addr}{n c:Nat}{f:Nat->Int}{x:Int}{m:Nat}(hm:m<=h.next) (hb:0<n->b=some a) (hi:Ints h a n f) (ha:0<n->a.block<m) (hn:n<1000000000000000) (hs:∀i j,i<j->j<n->f i<f j):
 AW Tryz.prog 351 h.next h [.slice b n c,.int .i64 x] (fun v _=>∃t,v= .tuple #[.int .i64 (cnt f x n),.bool t]):=by
 refine yV.call rfl (Nat.le_refl _) ?_
 unfold Ahm
 (focus((try with_reducible apply wpC.to);(repeat'((conv=>whnf);first|refine Ak ?_|(apply Fork.mk<;>(intro _;try(exfalso;omega)))|((apply Ar);(focus exact Ao);(focus exact AQ);(focus(first|exact SN|exact SQ));first|((apply Ad)<;>(intro AV _ _ _;first|exact Bool.noConfusion AV|replace AV:=of_decide_eq_true AV|replace AV:=of_decide_eq_false AV|skip)<;>((try simp only[AllOk,Bd.ok,and_true]at AV);first|contradiction|(revert AV;intros)))|((apply Ac)<;>intro _ _ _ _<;>try contradiction)|(apply Ab;intro _ _ _))|fail));all_goals((conv=>whnf);try with_reducible apply At.mk)))
 refine wp_loop (fun s:Nat × Nat=>[(0,.slice b n c),(1,.int .i64 x),(6,.int .i64 n),(7,.int .i64 s.1),(8,.int .i64 s.2)])
  (fun s h1=>Same h.next h h1/\h.next<=h1.next/\s.1<=s.2/\s.2<=n/\(∀i,i<s.1->f i<x)/\(∀i,s.2<=i->i<n->x<=f i)) (fun s=>s.2 - s.1) (0,n) ⟨rfl,rfl,rfl,rfl,rfl,trivial⟩ ⟨Aq,Ah,by simp,by simp,fun i hi=>by simp at hi,fun i h1 h2=>by simp at h1;omega⟩ ?_
 rintro⟨s,e⟩ g h1 ⟨q,hn1,hs1,hs2,hlo,hhi⟩ K hK
 simp only at hs1 hs2 hlo hhi hK⊢
 (focus((try with_reducible apply wpC.to);(repeat'((conv=>whnf);first|refine Ak ?_|(apply Fork.mk<;>(intro _;try(exfalso;omega)))|((apply Ar);(focus exact Ao);(focus exact AQ);(focus(first|exact SN|exact SQ));first|((apply Ad)<;>(intro AV _ _ _;first|exact Bool.noConfusion AV|replace AV:=of_decide_eq_true AV|replace AV:=of_decide_eq_false AV|skip)<;>((try simp only[AllOk,Bd.ok,and_true]at AV);first|contradiction|(revert AV;intros)))|((apply Ac)<;>intro _ _ _ _<;>try contradiction)|(apply Ab;intro _ _ _))|fail));all_goals((conv=>whnf);try with_reducible apply At.mk)))
 ·have hmid:IntKind.i64.wrap (((s:Int)+(e:Int)).fdiv (2^min (Int.toNat 1) IntKind.u64.bits))=(((s+e) / 2:Nat):Int):=by
   have e1:(2:Int)^min (Int.toNat 1) IntKind.u64.bits=2:=rfl
   have e2:IntKind.i64.wrap (((s:Int)+(e:Int)) / 2)=((s:Int)+(e:Int)) / 2:=Lm Al
   rw[e1,Int.fdiv_eq_ediv_of_nonneg _ Al,e2]
   omega
  refine Wrap.mk hmid ?_
  have hm1:s<=(s+e) / 2:=by omega
  have hm2:(s+e) / 2<e:=by omega
  generalize (s+e) / 2=mid at*
  (focus((try with_reducible apply wpC.to);(repeat'((conv=>whnf);first|refine Ak ?_|(apply Fork.mk<;>(intro _;try(exfalso;omega)))|((apply Ar);(focus exact Ao);(focus exact AQ);(focus(first|exact SN|exact SQ));first|((apply Ad)<;>(intro AV _ _ _;first|exact Bool.noConfusion AV|replace AV:=of_decide_eq_true AV|replace AV:=of_decide_eq_false AV|skip)<;>((try simp only[AllOk,Bd.ok,and_true]at AV);first|contradiction|(revert AV;intros)))|((apply Ac)<;>intro _ _ _ _<;>try contradiction)|(apply Ab;intro _ _ _))|fail));all_goals((conv=>whnf);try with_reducible apply At.mk)))
  ·refine hK (mid+1,e) _ _ ⟨rfl,rfl,rfl,AK rfl (by simp),rfl,trivial⟩ ⟨Aq,Ah,by simp only;omega,hs2,fun i hi=>?_,hhi⟩ (by simp only;omega)
   simp only at hi
   by_cases he:i=mid
   ·subst he;assumption
   ·have:=hs i mid Al Al;omega
  ·refine hK (s,mid) _ _ ⟨rfl,rfl,rfl,rfl,rfl,trivial⟩ ⟨Aq,Ah,by simp only;omega,by simp only;omega,hlo,fun i hi1 hi2=>?_⟩ (by simp only;omega)
   simp only at hi1
   by_cases he:i=mid
   ·subst he;omega
   ·have:=hs mid i Al Al;omega
 all_goals
  have hse:s=e:=by omega
  subst hse
  have hc:cnt f x n=s:=by
   obtain⟨s1,s2⟩:=O5 (re:=f) (x:=x) (k:=n) hs
   have hl:=W7 f x n
   rcases Nat.lt_trichotomy (cnt f x n) s with h|h|h
   ·have a1:=s2 _ (Nat.le_refl _) Al
    have b1:=hlo _ h
    omega
   ·exact h
   ·have a1:=s1 s h
    have b1:=hhi s (Nat.le_refl _) Al
    omega
  (refine Au ?_)
  exact⟨_,by rw[hc]⟩
theorem uW {h:H}{b:Option Addr}{a:Addr}{n c:Nat}{f:Nat->Int}{x:Int}{m:Nat}(hm:m<=h.next) (hb:0<n->b=some a) (hi:Ints h a n f) (ha:0<n->a.block<m) (hn:n<1000000000000000) (hs:∀i j,i<j->j<n->f i<f j) {k:Nat}(hk:cnt f x n=k):
 AW Tryz.prog 296 h.next h [.slice b n c,.int .i64 x] (fun v _=>v= .int .i64 k):=by
 subst hk
 refine yX.call rfl (Nat.le_refl _) ?_
 unfold Aho
 (focus((try with_reducible apply wpC.to);(repeat'((conv=>whnf);first|refine Ak ?_|(apply Ar;(focus exact Ao);(focus omega);(focus(apply l8;rotate_left;(focus assumption);(focus(apply Ints.same';(focus assumption);(focus assumption);(focus exact Aq)));(focus assumption);(focus assumption);(focus assumption);(focus exact Ah)));rintro _ ZQ ⟨z_t,wN⟩ wM ZP;subst wN;revert ZP wM z_t ZQ;intros)|fail));all_goals((conv=>whnf);try with_reducible apply At.mk)))
 all_goals((refine Au ?_);rfl)
theorem YG {G:Prop}(g:G:=by((apply uW;rotate_left;(focus assumption);(focus(apply Ints.same';(focus assumption);(focus assumption);(focus exact Aq)));(focus assumption);(focus assumption);(focus assumption);(focus first|assumption|exact rfl);(focus exact Ah)))):G:=g
theorem Abn {h:H}{L:Line}{m:Nat}(hm:m<=h.next) (hL:L.Ok m h) (hn:0<L.n):AW Tryz.prog 295 h.next h [.agg ⟨L.cells⟩] (fun v _=>v= .agg ⟨[.int .i64 (L.re 0),.int .i64 (L.re (L.n - 1))]⟩):=by
 obtain⟨e1,i1,r1,e2,i2,r2,l1,l2⟩:=hL
 refine yY.call rfl (Nat.le_refl _) ?_
 unfold Ahp
 (focus((try with_reducible apply wpC.to);(repeat'((conv=>whnf);first|refine Ak ?_|fail));all_goals((conv=>whnf);try with_reducible apply At.mk)))
 (refine Au ?_)
 rfl
theorem nE {G:Prop}(g:G:=by((apply AW.arg1;(focus(apply Abn;rotate_left;(focus(apply Line.Ok.same;(focus assumption);(focus exact Aq);(focus exact Nat.le_refl _)));(focus assumption);(focus exact Ah)));(focus exact Is.rfl)))):G:=g
theorem Aet {h:H}{L:Line}{m:Nat}{lo hi:Int}(hm:m<=h.next) (hL:L.Ok m h) (hn:0<L.n):AW Tryz.prog 215 h.next h [.agg ⟨L.cells⟩,.agg ⟨[.int .i64 lo,.int .i64 hi]⟩] (fun v _=>v= .bool (decide (L.re 0<=lo/\hi<=L.re (L.n - 1)))):=by
 refine zA.call rfl (Nat.le_refl _) ?_
 unfold Ah4
 (focus((try with_reducible apply wpC.to);(repeat'((conv=>whnf);first|refine Ak ?_|(apply Fork.mk<;>(intro _;try(exfalso;omega)))|((apply Ar);(focus exact Ao);(focus exact AQ);(focus(exact nE));first|((apply Ad)<;>(intro AV _ _ _;first|exact Bool.noConfusion AV|replace AV:=of_decide_eq_true AV|replace AV:=of_decide_eq_false AV|skip)<;>((try simp only[AllOk,Bd.ok,and_true]at AV);first|contradiction|(revert AV;intros)))|((apply Ac)<;>intro _ _ _ _<;>try contradiction)|(apply Ab;intro _ _ _))|fail));all_goals((conv=>whnf);try with_reducible apply At.mk)))
 all_goals((refine Au ?_);first|exact CI rfl Al|exact Ch rfl Al)
theorem nD {G:Prop}(g:G:=by((apply AW.arg1;(focus(apply Aet;rotate_left;(focus(apply Line.Ok.same;(focus assumption);(focus exact Aq);(focus exact Nat.le_refl _)));(focus omega);(focus exact Ah)));(focus exact Is.rfl)))):G:=g
theorem Be {G:Prop}(g:G:=by((apply AW.arg1;(focus(apply Aeb;rotate_left;(focus(apply Line.Ok.same;(focus assumption);(focus exact Aq);(focus exact Nat.le_refl _)));(focus omega);(focus exact Ah)));(focus exact Is.rfl)))):G:=g
set_option maxHeartbeats 1000000 in
theorem bW {h:H}{L:Line}{m:Nat}{x:Int}(hm:m<=h.next) (hL:L.Ok m h) (v:Valid L) (hin:inside L x):AW Tryz.prog 216 h.next h [.agg ⟨L.cells⟩,.int .i64 x] (fun w _=>w= .int .i64 (Jh L x)):=by
 obtain⟨e1,i1,r1,e2,i2,r2,l1,l2⟩:=hL
 obtain⟨k1,k2⟩:=PK v hin
 have hmn:=v.eq
 have hmid:=fun hne=>MG v hin hne
 have l3:L.n<1000000000000000:=by have:=v.hi;omega
 have hs:∀i j,i<j->j<L.n->L.re i<L.re j:=fun i j a b=>v.dS a b
 have hc:=v.Vo k1
 refine zy.call rfl (Nat.le_refl _) ?_
 unfold Ah3
 unfold Jh fr
 obtain⟨k,hk⟩:∃k,cnt L.re x L.n=k:=⟨_,rfl⟩
 have hki:idx L x=k:=hk
 simp only[hki]at k1 k2 hmid hc⊢
 have hlo:=v.lo
 by_cases hx:L.re k=x
 ·(focus((try with_reducible apply wpC.to);(repeat'((conv=>whnf);first|refine Ak ?_|(apply Fork.mk<;>(intro _;try(exfalso;omega)))|((apply Ar);(focus exact Ao);(focus exact AQ);(focus(first|exact Be|exact YG));first|((apply Ad)<;>(intro AV _ _ _;first|exact Bool.noConfusion AV|replace AV:=of_decide_eq_true AV|replace AV:=of_decide_eq_false AV|skip)<;>((try simp only[AllOk,Bd.ok,and_true]at AV);first|contradiction|(revert AV;intros)))|((apply Ac)<;>intro _ _ _ _<;>try contradiction)|(apply Ab;intro _ _ _))|fail));all_goals((conv=>whnf);try with_reducible apply At.mk)))
  all_goals(refine Au ?_)
  all_goals rw[if_pos hx]
 ·obtain⟨m1,m2,m3,m4,m5,m6,m7,m8,m9,m10,m11,m12⟩:=hmid hx
  rw[if_neg hx]
  (focus((try with_reducible apply wpC.to);(repeat'((conv=>whnf);first|refine Ak ?_|(apply Fork.mk<;>(intro _;try(exfalso;omega)))|((apply Ar);(focus exact Ao);(focus exact AQ);(focus(first|exact Be|exact YG));first|((apply Ad)<;>(intro AV _ _ _;first|exact Bool.noConfusion AV|replace AV:=of_decide_eq_true AV|replace AV:=of_decide_eq_false AV|skip)<;>((try simp only[AllOk,Bd.ok,and_true]at AV);first|contradiction|(revert AV;intros)))|((apply Ac)<;>intro _ _ _ _<;>try contradiction)|(apply Ab;intro _ _ _))|fail));all_goals((conv=>whnf);try with_reducible apply At.mk)))
  all_goals((refine Au ?_);rfl)
theorem Ki {G:Prop}(g:G:=by((apply AW.arg1;(focus(apply bW;rotate_left;(focus(apply Line.Ok.same;(focus assumption);(focus exact Aq);(focus exact Nat.le_refl _)));(focus assumption);(focus assumption);(focus exact Ah)));(focus exact Is.rfl)))):G:=g
end AE.Tryz

/- Walks of drag and its reference: Friction. -/
namespace AE.Tryz
open Go AE AE.Drag Go.Proofs
set_option maxRecDepth 100000

theorem Bh {G:Prop}(g:G:=by((apply AW.arg1;(focus(apply Acu;rotate_left;(focus(apply Line.Ok.same;(focus assumption);(focus exact Aq);(focus exact Nat.le_refl _)));(focus assumption);(focus exact Ah)));(focus exact Is.rfl)))):G:=g
end AE.Tryz
