/- Walks of span: corners. -/
import Derived.Test.YtneenfjffejnoaaGreatAEBy2
import Derived.Test.YtneenfjffejnoaaGreatTSpanN
import Derived.Test.YtneenfjffejnoaaGreatAEthree
set_option linter.unusedVariables false
set_option linter.unusedSimpArgs false
set_option linter.unusedSectionVars false
namespace AE
open Go Go.RowKit
section
variable {P:Program}{lo Br:Nat}{ts:Ts}{h:H}{k:Value->H->Prop}
theorem xy {sz n c l:Nat}{x hi':BH}{a:Addr}{k1:IntKind}(hx:ev ts x= .slice (some a) n c) (hh:ev ts hi'= .int k1 (l:Int)) (hs:a.spot=none) (h1:l<=c) (h0:0<c) (hf:c<far)
 (hr:k (.slice (some a) l c) h):DT P lo Br ts h (.HL sz x none (some hi') none) k:=by
 have n1:C9 (ev ts hi')=some l:=by rw[hh];simp[C9]
 refine DT.mk (h':=h) (v:=.slice (some (Dy a 0 c sz)) (l - 0) (c - 0)) ?_ ?_
 ·simp[C6,HL,hx,hs,Ee,KU,CM,n1,enc1,keep,Nat.not_le.2 hf,hf]
  omega
 ·have e:Dy a 0 c sz=a:=by
   unfold Dy;rw[if_neg Al,Nat.zero_mul];simp[BI]
  rw[e]
  exact hr
theorem sk {sz r n cd cs:Nat}{e:TypeId}{dd s:BH}{b:Option Addr}{a:Addr}{c:List Value}{f:Nat->List Value}(hd:ev ts dd= .slice (some ⟨r,0,none⟩) n cd) (hs:ev ts s= .slice b n cs) (hb:0<n->b=some a) (hi:JP h a n sz f) (hf:∀i,(f i).length=sz) (ho:∀i,(f i).all Value.oneCell'=true) (hn:0<n)
 (hget:h.get r=some (.cells c e)) (hlen:c.length=n*sz) (hlo:lo<=r) (qL:cd<far) (hfs:cs<far) (hr:k (.int .i64 n) (h.put r (.cells (rowsOf f n) e))):DT P lo Br ts h (.copy sz dd s) k:=
 DT.mk (by
  obtain rfl:=hb hn
  have hall:=hi.all hn n hn (Nat.le_refl _)
  have hlr:=E5 hf n
  have hst:h.En lo ⟨r,0,none⟩ (rowsOf f n)=some (h.put r (.cells (rowsOf f n) e)):=by
   unfold H.En
   rw[if_pos ⟨hlo,Oi ho n⟩]
   have hsp:splice c 0 (rowsOf f n)=rowsOf f n:=by
    unfold splice
    rw[hlr]
    simp[hlen]
   simp[hget,DI,hlr,hlen,hsp]
  have hn0:n≠0:=by omega
  simp[C6,N8,hd,hs,FK,Dv,hall,hn0,hst,Nat.not_le.2 qL,Nat.not_le.2 hfs]) hr
end
end AE
namespace AE.Tryz.Spn
open Go AE Go.Proofs AE.Sp
set_option maxRecDepth 100000
set_option linter.unusedVariables false

theorem Sc {f:Nat->List Value}{n sz:Nat}(hf:∀i,(f i).length=sz):cut (rowsOf f n) 0 (n*sz)=some (rowsOf f n):=by
 have h:=E5 hf n
 unfold cut
 rw[if_pos Al,<-h]
 simp
def Jq (T:Tab) (t:Er):Prop:=(T.n=0/\t=⟨0,0,1⟩)\/(∃i,i<2*T.n/\t=nr (T.S i))\/∃i j,(i<2*T.n/\j<2*T.n)/\0<cr (T.S i) (T.S j)/\t=vx (T.S i) (T.S j)
def ZG (T:Tab) (l:List Er) (i j:Nat):Prop:=∀j',j'<j->(0<cr (T.S i) (T.S j')->vx (T.S i) (T.S j')∈l)/\(0<cr (T.S j') (T.S i)->vx (T.S j') (T.S i)∈l)
def N1 (T:Tab) (l:List Er) (i:Nat):Prop:=∀i',i'<i->nr (T.S i')∈l/\ZG T l i' i'
theorem ZG.add {T:Tab}{l:List Er}{i j:Nat}{t:Er}(k:ZG T l i j):ZG T (l++[t]) i j:=fun j' h=>⟨fun hc=>List.mem_append_left _ ((k j' h).1 hc),fun hc=>List.mem_append_left _ ((k j' h).2 hc)⟩
theorem N1.add {T:Tab}{l:List Er}{i:Nat}{t:Er}(k:N1 T l i):N1 T (l++[t]) i:=fun i' h=>⟨List.mem_append_left _ (k i' h).1,(k i' h).2.add⟩
theorem fP (a:Sd):cr a a=0:=by unfold cr;rw[Int.mul_comm a.v a.u];omega
theorem N1.all {T:Tab}{l:List Er}(k:N1 T l (2*T.n)) (h0:T.n≠0) {t:Er}(h:Jq T t):t∈l:=by
 rcases h with⟨h, -⟩|⟨i,hi,rfl⟩|⟨i,j,⟨hi,hj⟩,hc,rfl⟩
 ·exact absurd h h0
 ·exact(k i hi).1
 ·rcases Nat.lt_trichotomy i j with h|h|h
  ·exact((k j hj).2 i h).2 hc
  ·subst h;rw[fP]at hc;exact absurd hc Al
  ·exact((k i hi).2 j h).1 hc
theorem uw (f:Nat->Run) (i:Nat):dt (sides f i) (sides f i)=(f (i / 2)).p* (f (i / 2)).p+(f (i / 2)).q* (f (i / 2)).q:=by
 unfold sides dt
 split
 ·rfl
 ·unfold Run.upper;dsimp only;rw[Int.neg_mul_neg,Int.neg_mul_neg]

set_option maxHeartbeats 8000000 in
theorem jM {h:H}{T:Tab}{m lo r1:Nat}{yv:Value}(hlo:lo<=h.next) (hT:T.Ok m h) (hm:m<=h.next) (g1:h.get r1=some (.cells [.pointer (some ⟨T.r,0,none⟩)] 113)) (b1:r1<h.next)
 (Inv:List Er->H->Prop) (Fin:H->Prop) (hI:∀l h1,Inv l h1->h1.get r1=h.get r1/\Same m h h1) (hst:∀l h1 h2,Inv l h1->Quiet h1.next h1 h2->Inv l h2) (hfin:∀h1 h2,Fin h1->Quiet h1.next h1 h2->Fin h2)
 (hy:∀l t h1,Jq T t->Inv l h1->h.next<=h1.next->∃v h2,(((v= .bool true/\Inv (l++[t]) h2)\/(v= .bool false/\Fin h2))/\∀r,h.next<=r->r<h1.next->h2.get r=h1.get r)/\CX Tryz.prog yv lo h1 [.agg ⟨t.cells⟩] v h2)
 (h0:Inv [] h):
 AW Tryz.prog 192 lo h [yv,.pointer (some ⟨r1,0,none⟩)] (fun _ h'=>(∃l,(∀t,Jq T t->t∈l)/\Inv l h')\/Fin h'):=by
 have hT0:=hT
 obtain⟨tg,wZ,tpe,tpi,tpr,tse,tsi,vt,tle,Ac3,tne⟩:=hT
 refine zV.call rfl hlo ?_
 unfold Aie
 by_cases hn:T.n=0
 ·have tg:h.get T.r=some (.cells [.slice T.pb 0 0,.slice none 0 0] 205):=by rw[tg,tne hn,hn]
  (refine Aj ?_)
  apply Dx
  focus exact CJ (hy [] ⟨0,0,1⟩ _ (.inl ⟨hn,rfl⟩) (hst _ h _ h0 AO) Ah) Ah
  rintro v h2 ⟨⟨rfl,hi2⟩|⟨rfl,hf2⟩,qM⟩ q2
  rotate_left
  ·(refine Aj ?_)
   (refine Au ?_)
   exact .inr (hfin _ _ hf2 AO)
  have n2:=q2.next
  simp only[Bv,AY]at n2
  obtain⟨gr1,sm⟩:=hI _ _ hi2
  have tg2:=(sm _ wZ).trans tg
  have gr1:=gr1.trans g1
  (refine Aj ?_)
  refine Hr (a:=0) (b:=0) (k1:=.i64) (k2:=.i64) rfl rfl (Nat.le_refl _) Al ?_
  (refine Aj ?_)
  refine wp_loop (fun _:Nat=>[(38,.int .i64 (0:Nat)),(39,.int .i64 (0:Nat))]) (fun _ h1=>Inv ([]++[⟨0,0,1⟩]) h1) (fun s=>s) 0 ⟨rfl,rfl,trivial⟩ (hst _ _ _ hi2 AO) ?_
  rintro s g h3 hi3 K hK
  (refine Aj ?_)
  (refine Au ?_)
  refine .inl ⟨_,fun t ht=>?_,hst _ _ _ hi3 AO⟩
  rcases ht with⟨-,rfl⟩|⟨i,hi, -⟩|⟨i,j,⟨hi, -⟩, -⟩
  ·simp
  ·omega
  ·omega
 ·have hz:¬((T.n:Nat):Int)=0:=by omega
  have h2n:0<2*T.n:=by omega
  have Ac4:=vt h2n
  have Ajo:=tpr Al
  have b1':=b1
  (refine Aj ?_)
  refine Hr (a:=2*T.n) (b:=2*T.n) (k1:=.i64) (k2:=.i64) rfl rfl (Nat.le_refl _) Al ?_
  rw[J5]
  (refine Aj ?_)
  apply sk (a:=T.sa) (b:=T.sb) (n:=2*T.n) (f:=fun i=>(T.S i).cells)
  case hd=>exact rfl
  case hs=>exact rfl
  case hb=>exact tse
  case hi=>exact tsi.same (m:=m) Aq vt
  case hf=>exact fun _=>rfl
  case ho=>exact fun _=>rfl
  case hn=>exact h2n
  case hget=>(exact Aa)
  case hlen=>exact E5 (fun _=>rfl) _
  case hlo=>(exact Ah)
  case qL=>unfold far;omega
  case hfs=>unfold far;omega
  (refine Aj ?_)
  refine wp_loop (fun s:Nat × List Er=>[(0,yv),(1,.pointer (some ⟨r1,0,none⟩)),(3,.slice (some ⟨h.next+17,0,none⟩) (2*T.n) (2*T.n)),(37,.slice (some ⟨h.next+17,0,none⟩) (2*T.n) (2*T.n)),(38,.int .i64 ((2*T.n:Nat):Int)),(39,.int .i64 s.1)])
   (fun s h1=>h1.get (h.next+17)=some (.cells (rowsOf (fun i=>(T.S i).cells) (2*T.n)) 109)/\Inv s.2 h1/\h.next+18<=h1.next/\s.1<=2*T.n/\N1 T s.2 s.1) (fun s=>2*T.n - s.1) (0,[]) ⟨rfl,rfl,rfl,rfl,rfl,rfl,trivial⟩ ⟨Aa,hst _ _ _ h0 AO,Ah,by omega,fun i' h=>absurd h (Nat.not_lt_zero _)⟩ ?_
  rintro⟨i,l⟩ g h3 ⟨x3,hi3,n3,hs,dn⟩ K hK
  dsimp only at hi3 hs dn⊢
  by_cases hin:i<2*T.n
  ·have e3:JP h3 ⟨h.next+17,0,none⟩ (2*T.n) 3 (fun i=>(T.S i).cells):=Sb (fun _=>rfl) (CP x3 (Sc fun _=>rfl))
   obtain⟨gr1,qJ⟩:=hI _ _ hi3
   have gr1:=gr1.trans g1
   have b1':=b1
   have tg3:=(qJ _ wZ).trans tg
   have p3:=tpi.same qJ tpr
   have Ajo:=tpr Al
   have tv:=Ac3 (i / 2) Al
   have ui:=hT0.up hin
   obtain⟨tp,tq, -, -, -, -⟩:=tv
   have m1:=BJ ui.u.1 ui.u.2 ui.w.1 ui.w.2
   have m2:=BJ ui.v.1 ui.v.2 ui.w.1 ui.w.2
   have m3:=BJ tp.1 tp.2 tp.1 tp.2
   have m4:=BJ tq.1 tq.2 tq.1 tq.2
   have e2:((i:Int) / 2).toNat=i / 2:=by omega
   have edt:dt (T.S i) (T.S i)=_:=uw T.f i
   rw[<-e2]at m3 m4 edt
   unfold Run.pair Run.cells at p3
   unfold Sd.cells at e3
   (refine Aj ?_)
   apply Dx
   rw[<-edt]
   focus exact CJ (hy l (nr (T.S i)) _ (.inr (.inl ⟨i,hin,rfl⟩)) (hst _ h3 _ hi3 AO) Ah) Ah
   rintro v h4 ⟨⟨rfl,hi4⟩|⟨rfl,bM⟩,OS⟩ q4
   rotate_left
   ·(refine Aj ?_)
    (refine Au ?_)
    exact .inr (hfin _ _ bM AO)
   have n4:=q4.next
   simp only[Bv,AY]at n4
   have x4:=(OS (h.next+17) Al Ah).trans ((Aw fun y hy=>Aa).trans x3)
   have x5:=(OS (h3.next+4) Al Ah).trans (show _=some (.cells (T.S i).cells 109)from Aa)
   (refine Aj ?_)
   apply xy (a:=⟨h.next+17,0,none⟩) (n:=2*T.n) (c:=2*T.n) (l:=i) (k1:=.i64)
   case hx=>exact rfl
   case hh=>exact rfl
   case hs=>exact rfl
   case h1=>omega
   case h0=>exact h2n
   case hf=>unfold far;omega
   (refine Aj ?_)
   refine wp_loop (fun s:Nat × List Er=>[(0,yv),(1,.pointer (some ⟨r1,0,none⟩)),(3,.slice (some ⟨h.next+17,0,none⟩) (2*T.n) (2*T.n)),(4,.int .i64 i),(5,.pointer (some ⟨h3.next+4,0,none⟩)),(37,.slice (some ⟨h.next+17,0,none⟩) (2*T.n) (2*T.n)),(38,.int .i64 ((2*T.n:Nat):Int)),(39,.int .i64 i),(84,.slice (some ⟨h.next+17,0,none⟩) i (2*T.n)),(85,.int .i64 i),(86,.int .i64 s.1)])
    (fun s h1=>h1.get (h.next+17)=some (.cells (rowsOf (fun i=>(T.S i).cells) (2*T.n)) 109)/\h1.get (h3.next+4)=some (.cells [.int .i64 (T.S i).u,.int .i64 (T.S i).v,.int .i64 (T.S i).w] 109)/\Inv s.2 h1/\(h.next+18<=h1.next/\h3.next+5<=h1.next)/\s.1<=i/\N1 T s.2 i/\nr (T.S i)∈s.2/\ZG T s.2 i s.1) (fun s=>i - s.1) (0,l++[nr (T.S i)]) ⟨rfl,rfl,rfl,rfl,rfl,rfl,rfl,rfl,rfl,rfl,rfl,trivial⟩ ⟨Aa,Aa,hst _ _ _ hi4 AO,Ah,by omega,dn.add,by simp,fun j' h=>absurd h (Nat.not_lt_zero _)⟩ ?_
   rintro⟨j,l⟩ g' h5 ⟨y1,y2,hi5,n5,hs5,dn5,mO,dj⟩ K' hK'
   dsimp only at hi5 hs5 dn5 mO dj⊢
   by_cases hji:j<i
   ·have uj:=hT0.up (i:=j) Al
    have c1:=BJ ui.u.1 ui.u.2 uj.v.1 uj.v.2
    have c2:=BJ ui.v.1 ui.v.2 uj.u.1 uj.u.2
    have c3:=BJ ui.w.1 ui.w.2 uj.v.1 uj.v.2
    have c4:=BJ uj.w.1 uj.w.2 ui.v.1 ui.v.2
    have c5:=BJ ui.u.1 ui.u.2 uj.w.1 uj.w.2
    have c6:=BJ uj.u.1 uj.u.2 ui.w.1 ui.w.2
    have ec: -800<=cr (T.S i) (T.S j)/\cr (T.S i) (T.S j)<=800:=by unfold cr;omega
    have e5:JP h5 ⟨h.next+17,0,none⟩ i 3 (fun i=>(T.S i).cells):=fun k hk=>(Sb (sz:=3) (n:=2*T.n) (f:=fun i=>(T.S i).cells) (fun _=>rfl) (CP y1 (Sc fun _=>rfl))) k Al
    unfold Sd.cells at e5
    have Acz:(⟨-((T.S i).w* (T.S j).v - (T.S j).w* (T.S i).v), -((T.S i).u* (T.S j).w - (T.S j).u* (T.S i).w), -cr (T.S i) (T.S j)⟩:Er)=vx (T.S j) (T.S i):=by
     unfold vx;rw[Eu (T.S i) (T.S j),Int.neg_sub,Int.neg_sub]
    (focus((try with_reducible apply wpC.to);(repeat'((conv=>whnf);first|refine Ak ?_|(apply Fork.mk<;>(intro _;try(exfalso;omega)))|((refine kTSpanH1 ?_);first|((first|apply Ae|apply Ac|apply Ad)<;>intro _ _ _ _<;>try contradiction)|(apply Ab;intro _ _ _))|fail));all_goals((conv=>whnf);try with_reducible apply At.mk)))
    ·apply Dx
     focus exact CJ (hy l ⟨-((T.S i).w* (T.S j).v - (T.S j).w* (T.S i).v), -((T.S i).u* (T.S j).w - (T.S j).u* (T.S i).w), -cr (T.S i) (T.S j)⟩ _ (.inr (.inr ⟨j,i,⟨by omega,hin⟩,by rw[Eu];assumption,Acz⟩)) (hst _ h5 _ hi5 AO) Ah) Ah
     rintro v h6 ⟨⟨rfl,hi6⟩|⟨rfl,jv⟩,fE⟩ q6
     rotate_left
     ·(refine Aj ?_)
      (refine Au ?_)
      exact .inr (hfin _ _ jv AO)
     have n6:=q6.next
     simp only[Bv,AY]at n6
     have z1:=(fE (h.next+17) Al Ah).trans ((Aw fun y hy=>Aa).trans y1)
     have z2:=(fE (h3.next+4) Al Ah).trans ((Aw fun y hy=>Aa).trans y2)
     (refine Aj ?_)
     refine hK' (j+1,l++[⟨-((T.S i).w* (T.S j).v - (T.S j).w* (T.S i).v), -((T.S i).u* (T.S j).w - (T.S j).u* (T.S i).w), -cr (T.S i) (T.S j)⟩]) _ _ ⟨rfl,rfl,rfl,rfl,rfl,rfl,rfl,rfl,rfl,rfl,AK rfl (by dsimp only;omega),trivial⟩ ⟨Aa,Aa,hst _ _ _ hi6 AO,Ah,by dsimp only;omega,dn5.add,List.mem_append_left _ mO,fun j' h=>?_⟩ (by dsimp only;omega)
     dsimp only at h
     by_cases e:j'=j
     ·subst e
      exact⟨fun hc=>by omega,fun _=>by rw[<-Acz];simp⟩
     ·exact dj.add j' Al
    ·apply Dx
     focus exact CJ (hy l (vx (T.S i) (T.S j)) _ (.inr (.inr ⟨i,j,⟨hin,by omega⟩,by assumption,rfl⟩)) (hst _ h5 _ hi5 AO) Ah) Ah
     rintro v h6 ⟨⟨rfl,hi6⟩|⟨rfl,jv⟩,fE⟩ q6
     rotate_left
     ·(refine Aj ?_)
      (refine Au ?_)
      exact .inr (hfin _ _ jv AO)
     have n6:=q6.next
     simp only[Bv,AY]at n6
     have z1:=(fE (h.next+17) Al Ah).trans ((Aw fun y hy=>Aa).trans y1)
     have z2:=(fE (h3.next+4) Al Ah).trans ((Aw fun y hy=>Aa).trans y2)
     (refine Aj ?_)
     refine hK' (j+1,l++[(vx (T.S i) (T.S j))]) _ _ ⟨rfl,rfl,rfl,rfl,rfl,rfl,rfl,rfl,rfl,rfl,AK rfl (by dsimp only;omega),trivial⟩ ⟨Aa,Aa,hst _ _ _ hi6 AO,Ah,by dsimp only;omega,dn5.add,List.mem_append_left _ mO,fun j' h=>?_⟩ (by dsimp only;omega)
     dsimp only at h
     by_cases e:j'=j
     ·subst e
      exact⟨fun _=>by simp,fun hc=>by rw[Eu]at hc;omega⟩
     ·exact dj.add j' Al
    ·(refine Aj ?_)
     refine hK' (j+1,l) _ _ ⟨rfl,rfl,rfl,rfl,rfl,rfl,rfl,rfl,rfl,rfl,AK rfl (by dsimp only;omega),trivial⟩ ⟨Aa,Aa,hst _ _ _ hi5 AO,Ah,by dsimp only;omega,dn5,mO,fun j' h=>?_⟩ (by dsimp only;omega)
     dsimp only at h
     by_cases e:j'=j
     ·subst e;exact⟨fun hc=>by omega,fun hc=>by rw[Eu]at hc;omega⟩
     ·exact dj j' Al
   ·obtain rfl:j=i:=by omega
    (refine Aj ?_)
    refine hK (j+1,l) _ _ ⟨rfl,rfl,rfl,rfl,rfl,AK rfl (by dsimp only;omega),trivial⟩ ⟨Aa,hst _ _ _ hi5 AO,Ah,by dsimp only;omega,fun i' h=>?_⟩ (by dsimp only;omega)
    dsimp only at h
    by_cases e:i'=j
    ·subst e;exact⟨mO,dj⟩
    ·exact dn5 i' Al
  ·obtain rfl:i=2*T.n:=by omega
   (refine Aj ?_)
   (refine Au ?_)
   exact .inl ⟨l,fun t ht=>dn.all hn ht,hst _ _ _ hi3 AO⟩
end AE.Tryz.Spn
