/- Walks and plain laws: TSpanL, TSpanM. -/
import Derived.Test.YtneenfjffejnoaaGreatAEBy2
import Derived.Test.YtneenfjffejnoaaGreatJoin41
set_option linter.unusedVariables false
set_option linter.unusedSimpArgs false
set_option linter.unusedSectionVars false

/- Walks of span: the greatest bound. -/
namespace AE.Tryz.Spn
open Go AE Go.Proofs AE.Sp
set_option maxRecDepth 100000
set_option linter.unusedVariables false

def Es (S:Nat->Sd) (W:Sd) (g:List Nat) (N D:Int):Prop:=match g with
 |[i]=>cr (S i) W=0/\((S i).u*W.size+W.u* -(S i).size=0/\(S i).v*W.size+W.v* -(S i).size=0)/\N=(S i).w*W.size/\D=(S i).size
 | [i,j]=>(0<cr (S i) (S j)/\0<=cr W (S j)/\0<=cr (S i) W/\N=(S i).w*cr W (S j)+(S j).w*cr (S i) W/\D=cr (S i) (S j))\/
   (cr (S i) (S j)<0/\cr W (S j)<=0/\cr (S i) W<=0/\N=(S i).w* -cr W (S j)+(S j).w* -cr (S i) W/\D= -cr (S i) (S j))
 |_=>False
theorem _root_.AE.GG.spot {r n sz:Nat}{h:H}{e:TypeId}{cs:List Value}{v:Option Addr}(G:GG r h e sz n cs v) (h0:0<n):∃g,v=some ⟨r,0,some g⟩:=by
 rcases G with⟨rfl, -⟩|⟨-,G⟩
 ·exact absurd h0 (Nat.lt_irrefl 0)
 ·obtain⟨g,lens,valid,hv, -⟩:=G.is
  exact⟨g,hv⟩
structure dv (S:Nat->Sd) (N:Nat) (W:Sd) (b m:Nat) (h:H) (M:Mk):Prop where
 ok:M.Ok S N b m h
 nice:M.Ui
 u:M.s.u=M.t*W.u
 v:M.s.v=M.t*W.v
 g:∃g,Uj N 2 g/\Es S W g M.s.w M.t
 r:M.r≠ .none
theorem dv.frame {S:Nat->Sd}{N b b' m m':Nat}{W:Sd}{h h':H}{M:Mk}(k:dv S N W b m h M) (hb:b'<=b) (hm:m<=m') (s:∀r,b<=r->r<m->h'.get r=h.get r):dv S N W b' m' h' M:=⟨k.ok.frame hb hm s,k.nice,k.u,k.v,k.g,k.r⟩

structure MInv (T:Tab) (W:Sd) (m hn nb r2:Nat) (h0:H) (L0:F3) (l:List (List Nat)) (ml:List Mk) (v:Option Addr) (rr:Nat) (h1:H):Prop where
 x0:h1.get hn=some (.cells [.pointer (some ⟨T.r,0,none⟩)] 113)
 x1:h1.get (hn+1)=some (.cells [.map none,.int .i64 0,.int .i64 0,.int .i64 0,.int .i64 0] 111)
 xw:h1.get (hn+6)=some (.cells [.int .i64 W.u,.int .i64 W.v,.int .i64 W.w] 109)
 xa:h1.get (hn+11)=some (.cells [.slice v ml.length 0] 318)
 x2:h1.get r2=some (.cells [.int .i64 2] 3)
 sm:Same m h0 h1
 xl:h1.get nb=some (.loop L0)
 ln:nb<h1.next
 G:GG rr h1 111 5 ml.length (cellsOf Mk.cells ml) v
 gr:0<ml.length->nb<rr/\rr<h1.next
 le:ml.length<=l.length
 ok:∀M∈ml,dv T.S (2*T.n) W (nb+1) h1.next h1 M/\∀q,M.r=some q->q≠rr
 all:∀g∈l,∀N D,Es T.S W g N D->∃M∈ml,M.s.w=N/\M.t=D
section
variable {T:Tab}{W:Sd}{m hn nb r2 rr rr':Nat}{h0 h1 h2:H}{L0:F3}{l:List (List Nat)}{g:List Nat}{ml:List Mk}{v v':Option Addr}{M:Mk}
theorem MInv.frame (k:MInv T W m hn nb r2 h0 L0 l ml v rr h1) (hm:m<=h1.next) (hr:hn+11<h1.next) (hr2:r2<h1.next) (n:h1.next<=h2.next) (e:∀r,r<h1.next->h2.get r=h1.get r):MInv T W m hn nb r2 h0 L0 l ml v rr h2:=by
 obtain⟨x0,x1,xw,xa,x2,sm,xl,ln,G,gr,le,ok,all⟩:=k
 exact⟨by rw[e _ Al];exact x0,by rw[e _ Al];exact x1,by rw[e _ Al];exact xw,by rw[e _ Al];exact xa,by rw[e _ hr2];exact x2,fun r h=>(e r Al).trans (sm r h),by rw[e _ ln];exact xl,by omega,G.frame fun h0=>e _ (gr h0).2,fun h0=>by have:=gr h0;omega,le,fun M hM=>⟨(ok M hM).1.frame (Nat.le_refl _) Al fun r _ h=>e r h,(ok M hM).2⟩,all⟩
theorem MInv.skip (k:MInv T W m hn nb r2 h0 L0 l ml v rr h1) (hg:∀N D,¬Es T.S W g N D):MInv T W m hn nb r2 h0 L0 (l++[g]) ml v rr h1:=by
 obtain⟨x0,x1,xw,xa,x2,sm,xl,ln,G,gr,le,ok,all⟩:=k
 refine⟨x0,x1,xw,xa,x2,sm,xl,ln,G,gr,by simp;omega,ok,fun g' hg' N D hc=>?_⟩
 rcases List.mem_append.1 hg' with h|h
 ·exact all g' h N D hc
 ·rw[List.mem_singleton.1 h]at hc;exact absurd hc (hg N D)
theorem MInv.push (k:MInv T W m hn nb r2 h0 L0 l ml v rr h1) (hm:m<=hn) (hr:hn+11<nb) (hr2:r2<nb) (r2n:r2≠hn+11) (n:h1.next<=h2.next) (e:∀r,r<h1.next->r≠hn+11->(0<ml.length->r≠rr)->h2.get r=h1.get r)
 (xa':h2.get (hn+11)=some (.cells [.slice v' (ml.length+1) 0] 318)) (G':GG rr' h2 111 5 (ml.length+1) (cellsOf Mk.cells ml++M.cells) v') (d1:ml.length=0->h1.next<=rr'/\rr'<h2.next) (d2:0<ml.length->rr'=rr)
 (c:dv T.S (2*T.n) W h1.next h2.next h2 M) (cr':∀q,M.r=some q->q≠rr') (hg:∀N D,Es T.S W g N D->M.s.w=N/\M.t=D):MInv T W m hn nb r2 h0 L0 (l++[g]) (ml++[M]) v' rr' h2:=by
 obtain⟨x0,x1,xw,xa,x2,sm,xl,ln,G,gr,le,ok,all⟩:=k
 have e':∀r,r<nb+1->r≠hn+11->h2.get r=h1.get r:=fun r h h'=>e r Al h' fun h0=>by have:=gr h0;omega
 refine⟨by rw[e' _ Al Al];exact x0,by rw[e' _ Al Al];exact x1,by rw[e' _ Al Al];exact xw,by rw[List.length_append];exact xa',by rw[e' _ Al r2n];exact x2,fun r h=>(e' r Al Al).trans (sm r h),by rw[e' _ Al Al];exact xl,by omega,by rw[List.length_append,JK];exact G',fun _=>?_,by rw[List.length_append,List.length_append];simp only[List.length_singleton];omega,fun M' hM'=>?_,fun g' hg' N D hc=>?_⟩
 ·rcases Nat.eq_zero_or_pos ml.length with h|h
  ·have:=d1 h;omega
  ·have:=d2 h;have:=gr h;omega
 ·rcases List.mem_append.1 hM' with h|h
  ·have h0:0<ml.length:=List.length_pos_of_mem h
   obtain⟨c1,c2⟩:=ok M' h
   refine⟨⟨⟨fun q hq=>?_,c1.ok.z,c1.ok.k,c1.ok.v,c1.ok.n,c1.ok.s⟩,c1.nice,c1.u,c1.v,c1.g,c1.r⟩,fun q hq=>by rw[d2 h0];exact c2 q hq⟩
   obtain⟨g1,g2⟩:=c1.ok.g q hq
   exact⟨by omega,(e q Al Al fun _=>c2 q hq).trans g2⟩
  ·rw[List.mem_singleton.1 h]
   exact⟨c.frame Al (Nat.le_refl _) fun _ _ _=>rfl,cr'⟩
 ·rcases List.mem_append.1 hg' with h|h
  ·obtain⟨M',h1,h2⟩:=all g' h N D hc
   exact⟨M',List.mem_append_left _ h1,h2⟩
  ·rw[List.mem_singleton.1 h]at hc
   exact⟨M,by simp,hg N D hc⟩
end

set_option maxHeartbeats 8000000 in
theorem xO {h:H}{T:Tab}{m:Nat}{p q:Int}(hm:m<=h.next) (hT:T.Ok m h) (hf:qS p q) (hz:¬(p=0/\q=0)):AW Tryz.prog 122 h.next h [.pointer (some ⟨T.r,0,none⟩),.int .i64 p,.int .i64 q] (fun v h'=>∃(M:Mk) (b:Bool),v= .tuple #[.agg ⟨M.cells⟩,.bool b]/\(b=true->dv T.S (2*T.n) ⟨p,q,0⟩ h.next h'.next h' M/\∀g N D,Uj (2*T.n) 2 g->Es T.S ⟨p,q,0⟩ g N D->N*M.t<=M.s.w*D)/\(b=false->M=Mk.none/\∀g N D,Uj (2*T.n) 2 g->¬Es T.S ⟨p,q,0⟩ g N D)):=by
 have hW:(⟨p,q,0⟩:Sd).Up 20 100000:=⟨hf.1,hf.2,by dsimp only;omega⟩
 refine WI.call rfl (Nat.le_refl _) ?_
 unfold Acl
 (refine Aj ?_)
 refine DT.pure (.bool false) (DU (A:=⟨(⟨p,q,0⟩:Sd).cells⟩) (B:=⟨(⟨0,0,0⟩:Sd).cells⟩) rfl rfl rfl rfl rfl (by kernel_rfl) ((Mb ⟨p,q,0⟩ ⟨0,0,0⟩).trans (congrArg some (decide_eq_false fun k=>hz ⟨k.1,k.2.1⟩)))) ?_
 (refine Aj ?_)
 apply Ar
 focus(exact Ao)
 focus(exact AQ)
 focus exact YX (T:=T) (mo:=2)
 rintro _ h2 ⟨r1,r2,rfl,b1,b2,g1,g2⟩ q2 n2
 simp only[Bv,AY]at b1 b2
 (refine Aj ?_)
 refine Dq (l:=[(3,.pointer (some ⟨h.next,0,none⟩)),(6,.pointer (some ⟨h.next+1,0,none⟩)),(7,.bool false),(8,.pointer (some ⟨h.next+6,0,none⟩)),(9,.pointer (some ⟨h.next+11,0,none⟩)),(29,.func (.func 198) ⟨[]⟩ ⟨[.pointer (some ⟨r1,0,none⟩),.pointer (some ⟨r2,0,none⟩)]⟩)]) ⟨rfl,rfl,rfl,rfl,rfl,rfl,trivial⟩ fun g'=>?_
 apply IK
 focus exact rfl
 focus(exact Ao)
 focus(exact Jk)
 intro L0 hL0
 have R3:Same m h h2:=by(exact Aq)
 have i0:MInv T ⟨p,q,0⟩ m h.next h2.next r2 h L0 [] [] none 0 ((h2.bump 1).put h2.next (.loop L0)):=⟨Aa,Aa,Aa,Aa,Aa,Aq,Aa,Ah,GG.nil,fun h=>absurd h (by simp),by simp,fun M hM=>absurd hM (by simp),fun g hg=>absurd hg (by simp)⟩
 refine⟨_,YV (T:=T) (m:=m) (r1:=r1) (r2:=r2) (mo:=2) (.inl rfl) Ah (hT.same Aq (Nat.le_refl _)) Ah Aa Ah
  (fun l h1=>h2.next<h1.next/\∃ml v rr,MInv T ⟨p,q,0⟩ m h.next h2.next r2 h L0 l ml v rr h1) (fun _=>False) (fun l h1 ⟨_,_,_,_,k⟩=>k.x2) ?_ (fun _ _ k _=>k.elim) ?_ ⟨Ah,[],none,0,i0⟩ Ah,?_⟩
 ·rintro l h3 h4 ⟨ln,ml,v,rr,k⟩ qq
  have:=qq.next
  exact⟨by omega,ml,v,rr,k.frame Al Al Al qq.next fun r h=>qq.same r h⟩
 ·rintro l g gq h3 hg hl ⟨ln,ml,v,rr,k⟩ hle gg hq1 hq2
  have kk:=k
  obtain⟨x0,x1,xw,xa,x2,sm,xl, -,G,gr,le,ok,all⟩:=k
  simp only[Bv,AY]at hq1
  have hL1:ended (busy L0) .none=L0:=by rw[hL0];exact rfl
  obtain⟨tg,wZ, -, -, -,tse,tsi,vt,tle, -⟩:=hT.same sm (Nat.le_refl _)
  rcases hg with⟨i,hi,rfl⟩|⟨i,j,hij,hj,rfl⟩|⟨h3, -⟩
  rotate_right
  ·exact absurd h3 (by decide)
  ·have gg:h3.get gq=some (.cells [.int .i64 (i:Int)] 3):=gg
   have ui:=hT.up hi
   have si:=Q8 ui
   have sw:=Q8 hW
   have Ac4:=vt Al
   refine YA.call WI.mixed (A:=Qd) (B:=Qc) (L:=L0) (by rw[hL0];exact pY) (by rw[hL0];exact pX) xl Al Al (by rw[hL0];exact rfl) (by rw[hL0];exact rfl) ?_
   unfold YA Qd
   refine Dq (l:=[(3,.pointer (some ⟨h.next,0,none⟩)),(8,.pointer (some ⟨h.next+6,0,none⟩)),(9,.pointer (some ⟨h.next+11,0,none⟩)),(30,.slice (some ⟨gq,0,none⟩) 1 1)]) ⟨by rw[hL0];exact rfl,by rw[hL0];exact rfl,by rw[hL0];exact rfl,by rw[hL0];exact rfl,trivial⟩ fun g''=>?_
   (refine Aj ?_)
   refine⟨rfl,L0,Aa,by rw[hL0];exact rfl,?_⟩
   unfold Qc
   (focus((try with_reducible apply wpC.to);(repeat'((conv=>whnf);first|refine Ak ?_|(apply Fork.mk<;>(intro _;try(exfalso;omega)))|((first|refine kTSpanH2 ?_|refine kTSpanH1 ?_|refine kTSpanH0 ?_|refine kTSpanG0 ?_);first|((first|apply Ae|apply Ac|apply Ad)<;>intro _ _ _ _<;>try contradiction)|(apply Ab;intro _ _ _))|fail));all_goals((conv=>whnf);try with_reducible apply At.mk)))
   rotate_left
   ·exact⟨.none,_,rfl,Aa,.inl ⟨rfl,Ah,ml,v,rr,(kk.frame Al Al Al Ah fun r hr=>by
     by_cases e:r=h2.next
     ·rw[e,hL1,xl];(exact Aa)
     ·exact Aw fun y hy=>Aa).skip fun N D hc=>absurd hc.1 (by assumption)⟩⟩
   have hc:cr (T.S i) ⟨p,q,0⟩=0:=by assumption
   have b1:=Pb ui (n:=(⟨p,q,0⟩:Sd).size.toNat) Al
   rw[Int.toNat_of_nonneg sw.1]at b1
   have b2:((⟨p,q,0⟩:Sd).by (-(T.S i).size)).Up 16000 80000000:=by
    have c1:=BJ (b:= -(T.S i).size) (B:=40) hW.u.1 hW.u.2 Al Al
    have c2:=BJ (b:= -(T.S i).size) (B:=40) hW.v.1 hW.v.2 Al Al
    exact⟨by unfold Sd.by;dsimp only at c1⊢;omega,by unfold Sd.by;dsimp only at c2⊢;omega,by unfold Sd.by;dsimp only;omega⟩
   apply Dw
   focus(exact Ao)
   focus(exact AQ)
   focus exact Z7 (a:=(T.S i).by (⟨p,q,0⟩:Sd).size) (b:=(⟨p,q,0⟩:Sd).by (-(T.S i).size)) (F:=16000) (W:=80000000) (e:=109) b1 b2 (by decide) (by decide) Aa Ah
   intro h4 q4 n4
   (focus((try with_reducible apply wpC.to);(repeat'((conv=>whnf);first|refine Ak ?_|(apply Fork.mk<;>(intro _;try(exfalso;omega)))|((first|refine kTSpanH2 ?_|refine kTSpanH1 ?_|refine kTSpanH0 ?_|refine kTSpanG0 ?_);first|((first|apply Ae|apply Ac|apply Ad)<;>intro _ _ _ _<;>try contradiction)|(apply Ab;intro _ _ _))|fail));all_goals((conv=>whnf);try with_reducible apply At.mk)))
   by_cases hP:(T.S i).u* (⟨p,q,0⟩:Sd).size+p* -(T.S i).size=0/\(T.S i).v* (⟨p,q,0⟩:Sd).size+q* -(T.S i).size=0
   ·refine DT.pure (.bool true) (DU (A:=⟨(((T.S i).by (⟨p,q,0⟩:Sd).size).add ((⟨p,q,0⟩:Sd).by (-(T.S i).size))).flat.cells⟩) (B:=⟨(⟨0,0,0⟩:Sd).cells⟩) rfl rfl rfl rfl rfl (by kernel_rfl) ((Mb (((T.S i).by (⟨p,q,0⟩:Sd).size).add ((⟨p,q,0⟩:Sd).by (-(T.S i).size))).flat ⟨0,0,0⟩).trans (congrArg some (decide_eq_true ⟨hP.1,hP.2,rfl⟩)))) ?_
    (refine Aj ?_)
    have sp:=size_pos (hT.nz hi)
    apply Ar
    focus(exact Ao)
    focus(exact AQ)
    focus exact rH (T:=T) (m:=m) (i:=i) (x:=(⟨p,q,0⟩:Sd).size) (e:=3) (e':=2) Ah (hT.same Aq (Nat.le_refl _)) hi Al Aa Aa Ah Ah
    rintro _ h5 ⟨M,rfl,iY,mt,ms,mr, -⟩ q5 n5
    simp only[Bv,AY]at iY
    (refine Aj ?_)
    apply EP (r:=rr) (n:=ml.length) (m:=1) (cs:=cellsOf Mk.cells ml) (nc:=M.cells)
    case G=>exact G.frame fun h0=>Aw fun y hy=>by have:=gr h0;(exact Aa)
    case hsv=>exact rfl
    case C=>exact Cells.one (by unfold Mk.cells;(exact Ez)) (by unfold far;omega) rfl rfl
    case hm=>omega
    case hlo=>(exact Ah)
    case hlr=>exact fun h0=>by have:=gr h0;(exact Ah)
    case hsm=>omega
    intro v' rr' row a1 a2 a3 G'
    have c4:(0<ml.length/\rr'=rr/\h2.next<rr/\rr<h3.next)\/(ml.length=0/\h3.next<=rr'):=by
     rcases Nat.eq_zero_or_pos ml.length with h0|h0
     ·have:=a1 h0;exact .inr ⟨h0,Ah⟩
     ·have:=a2 h0;have:=gr h0;exact .inl ⟨h0,by omega,by omega,by omega⟩
    (refine Aj ?_)
    refine⟨.none,_,rfl,Aa,.inl ⟨rfl,Ah,ml++[M],v',rr',kk.push hm Al Al Al Ah (fun r hr1 hr2 hr3=>?_) Aa (G'.frame fun _=>Aw fun y hy=>Aa) (fun h0=>by have:=a1 h0;(exact Ah)) a2 ⟨iY.frame Ah Ah fun r hr1 hr2=>Aw fun y hy=>Aa,?_,?_,?_,?_,mr⟩ (fun qq hqq=>by have:=(iY.g qq hqq).1;rcases c4 with⟨c,d,_,_⟩|⟨c,_⟩<;>(try have:=a1 c)<;>omega) fun N D hc=>?_⟩⟩
    ·by_cases e:r=h2.next
     ·rw[e,hL1,xl];(exact Aa)
     ·exact Aw fun y hy=>by(exact Aa)
    ·refine⟨by rw[mt];omega,?_⟩
     rw[ms]
     have:=b1.w
     simp only[Sd.add,Sd.by,Int.zero_add]at this⊢
     omega
    ·rw[ms,mt]
     simp only[Sd.add,Sd.by,Int.zero_add]
     have:=hP.1
     rw[Int.mul_neg]at this
     rw[Int.mul_comm (T.S i).size]
     omega
    ·rw[ms,mt]
     simp only[Sd.add,Sd.by,Int.zero_add]
     have:=hP.2
     rw[Int.mul_neg]at this
     rw[Int.mul_comm (T.S i).size]
     omega
    ·refine⟨[i],.inl ⟨i,hi,rfl⟩,hc,hP,?_,mt⟩
     rw[ms]
     simp only[Sd.add,Sd.by,Int.zero_add]
    ·obtain⟨-, -,rfl,rfl⟩:=hc
     rw[ms,mt]
     simp only[Sd.add,Sd.by,Int.zero_add]
     exact⟨trivial,trivial⟩
   ·refine DT.pure (.bool false) (DU (A:=⟨(((T.S i).by (⟨p,q,0⟩:Sd).size).add ((⟨p,q,0⟩:Sd).by (-(T.S i).size))).flat.cells⟩) (B:=⟨(⟨0,0,0⟩:Sd).cells⟩) rfl rfl rfl rfl rfl (by kernel_rfl) ((Mb (((T.S i).by (⟨p,q,0⟩:Sd).size).add ((⟨p,q,0⟩:Sd).by (-(T.S i).size))).flat ⟨0,0,0⟩).trans (congrArg some (decide_eq_false fun k=>hP ⟨k.1,k.2.1⟩)))) ?_
    (refine Aj ?_)
    exact⟨.none,_,rfl,Aa,.inl ⟨rfl,Ah,ml,v,rr,(kk.frame Al Al Al Ah fun r hr=>by
     by_cases e:r=h2.next
     ·rw[e,hL1,xl];(exact Aa)
     ·exact Aw fun y hy=>Aa).skip fun N D hc=>hP hc.2.1⟩⟩
  ·have gg:h3.get gq=some (.cells [.int .i64 (i:Int),.int .i64 (j:Int)] 3):=gg
   have ui:=hT.up (i:=i) Al
   have uj:=hT.up hj
   have cz:=Vm ui uj
   have cx:=Vm hW uj
   have cy:=Vm ui hW
   have Ac4:=vt Al
   refine YA.call WI.mixed (A:=Qd) (B:=Qc) (L:=L0) (by rw[hL0];exact pY) (by rw[hL0];exact pX) xl Al Al (by rw[hL0];exact rfl) (by rw[hL0];exact rfl) ?_
   unfold YA Qd
   refine Dq (l:=[(3,.pointer (some ⟨h.next,0,none⟩)),(8,.pointer (some ⟨h.next+6,0,none⟩)),(9,.pointer (some ⟨h.next+11,0,none⟩)),(30,.slice (some ⟨gq,0,none⟩) 2 2)]) ⟨by rw[hL0];exact rfl,by rw[hL0];exact rfl,by rw[hL0];exact rfl,by rw[hL0];exact rfl,trivial⟩ fun g''=>?_
   (refine Aj ?_)
   refine⟨rfl,L0,Aa,by rw[hL0];exact rfl,?_⟩
   unfold Qc
   (focus((try with_reducible apply wpC.to);(repeat'((conv=>whnf);first|refine Ak ?_|(apply Fork.mk<;>(intro _;try(exfalso;omega)))|((first|refine kTSpanH2 ?_|refine kTSpanH1 ?_|refine kTSpanH0 ?_|refine kTSpanG0 ?_);first|((first|apply Ae|apply Ac|apply Ad)<;>intro _ _ _ _<;>try contradiction)|(apply Ab;intro _ _ _))|fail));all_goals((conv=>whnf);try with_reducible apply At.mk)))
   ·have c1:=Pb ui (n:=(-cr (⟨p,q,0⟩:Sd) (T.S j)).toNat) Al
    have c2:=Pb uj (n:=(-cr (T.S i) ⟨p,q,0⟩).toNat) Al
    rw[Int.toNat_of_nonneg Al]at c1 c2
    apply Ar
    focus(exact Ao)
    focus(exact AQ)
    focus exact VL (T:=T) (m:=m) (i:=i) (j:=j) (x:= -cr (⟨p,q,0⟩:Sd) (T.S j)) (y:= -cr (T.S i) ⟨p,q,0⟩) (e:=3) (e':=2) Ah (hT.same Aq (Nat.le_refl _)) hij hj Al Al Aa Aa Ah Ah
    rintro _ h5 ⟨M,rfl,iY,mt,ms,mr, -⟩ q5 n5
    simp only[Bv,AY]at iY
    (refine Aj ?_)
    apply EP (r:=rr) (n:=ml.length) (m:=1) (cs:=cellsOf Mk.cells ml) (nc:=M.cells)
    case G=>exact G.frame fun h0=>Aw fun y hy=>by have:=gr h0;(exact Aa)
    case hsv=>exact rfl
    case C=>exact Cells.one (by unfold Mk.cells;(exact Ez)) (by unfold far;omega) rfl rfl
    case hm=>omega
    case hlo=>(exact Ah)
    case hlr=>exact fun h0=>by have:=gr h0;(exact Ah)
    case hsm=>omega
    intro v' rr' row a1 a2 a3 G'
    have c4:(0<ml.length/\rr'=rr/\h2.next<rr/\rr<h3.next)\/(ml.length=0/\h3.next<=rr'):=by
     rcases Nat.eq_zero_or_pos ml.length with h0|h0
     ·have:=a1 h0;exact .inr ⟨h0,Ah⟩
     ·have:=a2 h0;have:=gr h0;exact .inl ⟨h0,by omega,by omega,by omega⟩
    (refine Aj ?_)
    refine⟨.none,_,rfl,Aa,.inl ⟨rfl,Ah,ml++[M],v',rr',kk.push hm Al Al Al Ah (fun r hr1 hr2 hr3=>?_) Aa (G'.frame fun _=>Aw fun y hy=>Aa) (fun h0=>by have:=a1 h0;(exact Ah)) a2 ⟨iY.frame Ah Ah fun r hr1 hr2=>Aw fun y hy=>Aa,?_,?_,?_,?_,mr⟩ (fun qq hqq=>by have:=(iY.g qq hqq).1;rcases c4 with⟨c,d,_,_⟩|⟨c,_⟩<;>(try have:=a1 c)<;>omega) fun N D hc=>?_⟩⟩
    ·by_cases e:r=h2.next
     ·rw[e,hL1,xl];(exact Aa)
     ·exact Aw fun y hy=>by(exact Aa)
    ·refine⟨by rw[mt];omega,?_⟩
     rw[ms]
     have d1:=c1.w
     have d2:=c2.w
     simp only[Sd.add,Sd.by,Int.zero_add]at d1 d2⊢
     omega
    ·rw[ms,mt]
     simp only[Sd.add,Sd.by,Int.zero_add]
     unfold cr;grind
    ·rw[ms,mt]
     simp only[Sd.add,Sd.by,Int.zero_add]
     unfold cr;grind
    ·refine⟨[i,j],.inr (.inl ⟨i,j,hij,hj,rfl⟩),.inr ⟨by omega,by omega,by omega,?_,mt⟩⟩
     rw[ms]
     simp only[Sd.add,Sd.by,Int.zero_add]
    ·rcases hc with⟨k1,k2,k3,k4,k5⟩|⟨k1,k2,k3,k4,k5⟩
     ·exfalso;omega
     ·rw[ms,mt,k4,k5];simp only[Sd.add,Sd.by,Int.zero_add];exact⟨trivial,trivial⟩
   ·exact⟨.none,_,rfl,Aa,.inl ⟨rfl,Ah,ml,v,rr,(kk.frame Al Al Al Ah fun r hr=>by
     by_cases e:r=h2.next
     ·rw[e,hL1,xl];(exact Aa)
     ·exact Aw fun y hy=>Aa).skip fun N D hc=>by rcases hc with⟨k1,k2,k3,k4,k5⟩|⟨k1,k2,k3,k4,k5⟩<;>omega⟩⟩
   ·exact⟨.none,_,rfl,Aa,.inl ⟨rfl,Ah,ml,v,rr,(kk.frame Al Al Al Ah fun r hr=>by
     by_cases e:r=h2.next
     ·rw[e,hL1,xl];(exact Aa)
     ·exact Aw fun y hy=>Aa).skip fun N D hc=>by rcases hc with⟨k1,k2,k3,k4,k5⟩|⟨k1,k2,k3,k4,k5⟩<;>omega⟩⟩
   ·have c1:=Pb ui (n:=(cr (⟨p,q,0⟩:Sd) (T.S j)).toNat) Al
    have c2:=Pb uj (n:=(cr (T.S i) ⟨p,q,0⟩).toNat) Al
    rw[Int.toNat_of_nonneg Al]at c1 c2
    apply Ar
    focus(exact Ao)
    focus(exact AQ)
    focus exact VL (T:=T) (m:=m) (i:=i) (j:=j) (x:=cr (⟨p,q,0⟩:Sd) (T.S j)) (y:=cr (T.S i) ⟨p,q,0⟩) (e:=3) (e':=2) Ah (hT.same Aq (Nat.le_refl _)) hij hj Al Al Aa Aa Ah Ah
    rintro _ h5 ⟨M,rfl,iY,mt,ms,mr, -⟩ q5 n5
    simp only[Bv,AY]at iY
    (refine Aj ?_)
    apply EP (r:=rr) (n:=ml.length) (m:=1) (cs:=cellsOf Mk.cells ml) (nc:=M.cells)
    case G=>exact G.frame fun h0=>Aw fun y hy=>by have:=gr h0;(exact Aa)
    case hsv=>exact rfl
    case C=>exact Cells.one (by unfold Mk.cells;(exact Ez)) (by unfold far;omega) rfl rfl
    case hm=>omega
    case hlo=>(exact Ah)
    case hlr=>exact fun h0=>by have:=gr h0;(exact Ah)
    case hsm=>omega
    intro v' rr' row a1 a2 a3 G'
    have c4:(0<ml.length/\rr'=rr/\h2.next<rr/\rr<h3.next)\/(ml.length=0/\h3.next<=rr'):=by
     rcases Nat.eq_zero_or_pos ml.length with h0|h0
     ·have:=a1 h0;exact .inr ⟨h0,Ah⟩
     ·have:=a2 h0;have:=gr h0;exact .inl ⟨h0,by omega,by omega,by omega⟩
    (refine Aj ?_)
    refine⟨.none,_,rfl,Aa,.inl ⟨rfl,Ah,ml++[M],v',rr',kk.push hm Al Al Al Ah (fun r hr1 hr2 hr3=>?_) Aa (G'.frame fun _=>Aw fun y hy=>Aa) (fun h0=>by have:=a1 h0;(exact Ah)) a2 ⟨iY.frame Ah Ah fun r hr1 hr2=>Aw fun y hy=>Aa,?_,?_,?_,?_,mr⟩ (fun qq hqq=>by have:=(iY.g qq hqq).1;rcases c4 with⟨c,d,_,_⟩|⟨c,_⟩<;>(try have:=a1 c)<;>omega) fun N D hc=>?_⟩⟩
    ·by_cases e:r=h2.next
     ·rw[e,hL1,xl];(exact Aa)
     ·exact Aw fun y hy=>by(exact Aa)
    ·refine⟨by rw[mt];omega,?_⟩
     rw[ms]
     have d1:=c1.w
     have d2:=c2.w
     simp only[Sd.add,Sd.by,Int.zero_add]at d1 d2⊢
     omega
    ·rw[ms,mt]
     simp only[Sd.add,Sd.by,Int.zero_add]
     unfold cr;grind
    ·rw[ms,mt]
     simp only[Sd.add,Sd.by,Int.zero_add]
     unfold cr;grind
    ·refine⟨[i,j],.inr (.inl ⟨i,j,hij,hj,rfl⟩),.inl ⟨by omega,by omega,by omega,?_,mt⟩⟩
     rw[ms]
     simp only[Sd.add,Sd.by,Int.zero_add]
    ·rcases hc with⟨k1,k2,k3,k4,k5⟩|⟨k1,k2,k3,k4,k5⟩
     ·rw[ms,mt,k4,k5];simp only[Sd.add,Sd.by,Int.zero_add];exact⟨trivial,trivial⟩
     ·exfalso;omega
   ·exact⟨.none,_,rfl,Aa,.inl ⟨rfl,Ah,ml,v,rr,(kk.frame Al Al Al Ah fun r hr=>by
     by_cases e:r=h2.next
     ·rw[e,hL1,xl];(exact Aa)
     ·exact Aw fun y hy=>Aa).skip fun N D hc=>by rcases hc with⟨k1,k2,k3,k4,k5⟩|⟨k1,k2,k3,k4,k5⟩<;>omega⟩⟩
   ·exact⟨.none,_,rfl,Aa,.inl ⟨rfl,Ah,ml,v,rr,(kk.frame Al Al Al Ah fun r hr=>by
     by_cases e:r=h2.next
     ·rw[e,hL1,xl];(exact Aa)
     ·exact Aw fun y hy=>Aa).skip fun N D hc=>by rcases hc with⟨k1,k2,k3,k4,k5⟩|⟨k1,k2,k3,k4,k5⟩<;>omega⟩⟩
   ·exact⟨.none,_,rfl,Aa,.inl ⟨rfl,Ah,ml,v,rr,(kk.frame Al Al Al Ah fun r hr=>by
     by_cases e:r=h2.next
     ·rw[e,hL1,xl];(exact Aa)
     ·exact Aw fun y hy=>Aa).skip fun N D hc=>by rcases hc with⟨k1,k2,k3,k4,k5⟩|⟨k1,k2,k3,k4,k5⟩<;>omega⟩⟩
 ·rintro v h3 hv qq
  rcases hv with⟨l,hl,ll,ln,ml,v,rr,k⟩|hf
  rotate_left
  ·exact hf.elim
  refine⟨_,k.xl,by rw[hL0];simp[EX],?_⟩
  rw[hL0]
  simp only[EX,FU]
  obtain⟨x0,x1,xw,xa,x2,sm,xl, -,G,gr,le,ok,all⟩:=k
  (focus((try with_reducible apply wpC.to);(repeat'((conv=>whnf);first|refine Ak ?_|(apply Fork.mk<;>(intro _;try(exfalso;omega)))|((first|refine kTSpanH2 ?_|refine kTSpanH1 ?_|refine kTSpanH0 ?_|refine kTSpanG0 ?_);first|((first|apply Ae|apply Ac|apply Ad)<;>intro _ _ _ _<;>try contradiction)|(apply Ab;intro _ _ _))|fail));all_goals((conv=>whnf);try with_reducible apply At.mk)))
  ·(refine Au ?_)
   have hml:ml=[]:=List.length_eq_zero_iff.1 Al
   subst hml
   exact⟨Mk.none,false,rfl,fun h=>Bool.noConfusion h,fun _=>⟨rfl,fun g N D hg hc=>by obtain⟨M,hM, -⟩:=all g (hl g hg) N D hc;exact absurd hM (by simp)⟩⟩
  ·have h0:0<ml.length:=by omega
   have G':=G
   rw[KX Mk.cells ml Mk.none]at G'
   obtain⟨a,ha,hE,hb⟩:=G'.els (fun i=>rfl)
   obtain⟨sg,hsg⟩:=G.spot h0
   have hgr:=gr h0
   have mem:∀i,i<ml.length->ml.getD i Mk.none∈ml:=fun i hi=>by
    rw[List.getD_eq_getElem?_getD,List.getElem?_eq_getElem hi]
    exact List.getElem_mem hi
   apply Ar
   focus(exact Ao)
   focus(exact AQ)
   focus exact oQ (L:=⟨ml.length,fun i=>ml.getD i Mk.none,v,a,0⟩) (m:=h3.next) Ah ⟨ha,fun i hi=>by have x:=hE i hi;have hbb:=hb h0;dsimp only at x⊢;(exact Zq),fun h0=>by dsimp only;rw[hb h0];omega,by dsimp only;omega,fun _=>.inr ⟨⟨sg,by have:=ha h0;rw[hsg]at this;exact(congrArg Addr.spot (Option.some.inj this)).symm⟩,rfl⟩⟩ h0 (fun i hi=>(ok _ (mem i hi)).1.nice)
   rintro _ h4 ⟨bi,hbi,rfl,FH⟩ q4 n4
   dsimp only at hbi FH⊢
   obtain⟨okM,Aoe⟩:=ok _ (mem bi hbi)
   generalize ml.getD bi Mk.none=M at*
   unfold Mk.cells
   (refine Aj ?_)
   (refine Au ?_)
   refine⟨M,true,rfl,fun _=>⟨okM.frame Al Ah fun r hr1 hr2=>Aw fun y hy=>Aa,fun g N D hg hc=>?_⟩,fun h=>Bool.noConfusion h⟩
   obtain⟨M',hM',rfl,rfl⟩:=all g (hl g hg) N D hc
   obtain⟨j,hj,rfl⟩:=List.getElem_of_mem hM'
   have:=FH j hj
   rw[List.getD_eq_getElem?_getD,List.getElem?_eq_getElem hj]at this
   exact this
end AE.Tryz.Spn

/- Walks of span: a short list sorted. -/
namespace AE.Tryz.Spn
open Go AE Go.Proofs AE.Sp
set_option maxRecDepth 100000
set_option linter.unusedVariables false

def IR (r:Nat) (h:H) (n:Nat) (f:Nat->Int) (v:Option Addr):Prop:=N5 r h 3 1 n (A0 f n) v
theorem IR.frame {r n:Nat}{h h':H}{f:Nat->Int}{v:Option Addr}(k:IR r h n f v) (e:h'.get r=h.get r):IR r h' n f v:=N5.frame k e
theorem Jf {f:Nat->Int}{n i:Nat}(hi:i<n):cut (A0 f n) i 1=some [.int .i64 (f i)]:=by
 have:=EN (g:=fun i=>[Value.int .i64 (f i)]) (w:=1) (fun _=>rfl) hi [] [] (a:=i) (by simp)
 unfold A0
 simpa using this
theorem IR.ints {r n:Nat}{h:H}{f:Nat->Int}{v:Option Addr}(k:IR r h n f v):∃a,v=some a/\a.block=r/\Ints h a n f:=by
 obtain⟨a,hv,hb,hld, -⟩:=k.load
 exact⟨a,hv,hb,fun i hi=>by have:=hld i 1 _ (Jf hi);simpa using this⟩
theorem IR.sto {r n i lo off:Nat}{h:H}{f:Nat->Int}{a:Addr}{x:Int}{K:H->Prop}(k:IR r h n f (some a)) (hi:i<n) (ho:off=i*1) (hlo:lo<=r) (hk:∀row,IR r (h.put r row) n (F7 f i x) (some a)->K (h.put r row)):Xq lo h (BI a off) 1 [.int .i64 x] K:=by
 subst ho
 obtain⟨a',h1,h2, -,h4⟩:=k.load
 simp only[Option.some.injEq]at h1
 subst h1
 obtain⟨row,e1,e2⟩:=h4 lo (i*1) [.int .i64 x] hlo rfl (by rw[EL];simp;omega)
 refine Xq.raw e1 rfl (hk row ?_)
 rw[Gn f x hi Al]at e2
 exact e2
theorem tG {h:H}{x:Int}:AW Tryz.prog 360 h.next h [.int .i64 x] (fun v _=>v= .bool false):=by
 refine yT.call rfl (Nat.le_refl _) ?_
 unfold Ahk
 (refine Aj ?_)
 (refine Au ?_)
 rfl
theorem kTSpanM0 {G G':Prop}(g:G') (t:G'->G:=by((apply Ar);(focus exact Ao);(focus exact AQ);(focus((apply tG))))):G:=t g
theorem jQ {h:H}{x y:Int}:AW Tryz.prog 289 h.next h [.int .i64 x,.int .i64 y] (fun v _=>v= .bool (decide (x<y))):=by
 refine y6.call rfl (Nat.le_refl _) ?_
 unfold Ahs
 (focus((try with_reducible apply wpC.to);(repeat'((conv=>whnf);first|refine Ak ?_|(apply Fork.mk<;>(intro _;try(exfalso;omega)))|((refine kTSpanM0 ?_);first|((first|apply Ae|apply Ac|apply Ad)<;>intro _ _ _ _<;>try contradiction)|(apply Ab;intro _ _ _))|fail));all_goals((conv=>whnf);try with_reducible apply At.mk)))
 all_goals((refine Au ?_);first|exact CI rfl Al|exact Ch rfl Al)
def swp (f:Nat->Int) (j:Nat):Nat->Int:=F7 (F7 f j (f (j - 1))) (j - 1) (f j)
theorem lS (f:Nat->Int) {j:Nat}(hj:0<j) (i:Nat):swp f j i=if i=j then f (j - 1)else if i=j - 1 then f j else f i:=by
 unfold swp F7
 by_cases h1:i=j
 ·subst h1
  rw[if_neg Al,if_pos rfl,if_pos rfl]
 ·by_cases h2:i=j - 1
  ·rw[if_pos h2,if_neg h1,if_pos h2]
  ·rw[if_neg h2,if_neg h1,if_neg h1,if_neg h2]
structure Pg (n:Nat) (f f':Nat->Int):Prop where
 inj:∀i j,i<n->j<n->f' i=f' j->i=j
 mem:∀x,(∃i,i<n/\f' i=x)↔∃i,i<n/\f i=x
def sig (j i:Nat):Nat:=if i=j then j - 1 else if i=j - 1 then j else i
theorem Q5 (f:Nat->Int) {j:Nat}(hj:0<j) (i:Nat):swp f j i=f (sig j i):=by
 rw[lS f hj]
 unfold sig
 by_cases h1:i=j
 ·rw[if_pos h1,if_pos h1]
 ·rw[if_neg h1,if_neg h1]
  by_cases h2:i=j - 1
  ·rw[if_pos h2,if_pos h2]
  ·rw[if_neg h2,if_neg h2]
theorem VX {j i n:Nat}(hj:j<n) (hi:i<n):sig j i<n:=by unfold sig;split<;>(try split)<;>omega
theorem VU {j i:Nat}(hj:0<j):sig j (sig j i)=i:=by
 unfold sig
 by_cases h1:i=j
 ·rw[if_pos h1,if_neg Al,if_pos rfl,h1]
 ·rw[if_neg h1]
  by_cases h2:i=j - 1
  ·rw[if_pos h2,if_pos rfl,h2]
  ·rw[if_neg h2,if_neg h1,if_neg h2]
theorem Pg.swp {n j:Nat}{f f':Nat->Int}(k:Pg n f f') (h0:0<j) (hj:j<n):Pg n f (swp f' j):=by
 constructor
 ·intro a b ha hb e
  rw[Q5 _ h0,Q5 _ h0]at e
  have:=k.inj _ _ (VX hj ha) (VX hj hb) e
  rw[<-VU (i:=a) h0,this,VU h0]
 ·intro x
  rw[<-k.mem]
  constructor
  ·rintro⟨i,hi,rfl⟩
   exact⟨sig j i,VX hj hi,(Q5 _ h0 i).symm⟩
  ·rintro⟨i,hi,rfl⟩
   exact⟨sig j i,VX hj hi,by rw[Q5 _ h0,VU h0]⟩

set_option maxHeartbeats 4000000 in
theorem YI {h:H}{lo r n:Nat}{f:Nat->Int}{v:Option Addr}(hlh:lo<=h.next) (hlr:0<n->lo<=r/\r<h.next) (hn:n<1000000) (k:0<n->IR r h n f v) (inj:∀i j,i<n->j<n->f i=f j->i=j):
 AW Tryz.prog 283 lo h [.slice v n 0,.int .i64 0,.int .i64 (n:Int)] (fun _ h'=>∃f',(∀i j,i<j->j<n->f' i<f' j)/\Pg n f f'/\(0<n->IR r h' n f' v)/\h.next<=h'.next/\∀q,q<h.next->(0<n->q≠r)->h'.get q=h.get q):=by
 refine y7.call rfl hlh ?_
 unfold Aht
 (refine Aj ?_)
 refine wp_loop (fun s:Nat × (Nat->Int)=>[(0,.slice v n 0),(1,.int .i64 0),(2,.int .i64 n),(6,.int .i64 s.1)])
  (fun s h1=>(0<n->IR r h1 n s.2 v)/\Pg n f s.2/\h.next<=h1.next/\(∀q,q<h.next->(0<n->q≠r)->h1.get q=h.get q)/\1<=s.1/\(s.1<=n\/s.1=1)/\∀i j,i<j->j<s.1->j<n->s.2 i<s.2 j) (fun s=>n - s.1) (1,f) ⟨rfl,rfl,rfl,rfl,trivial⟩ ⟨fun h0=>(k h0).frame rfl,⟨inj,fun x=>Iff.rfl⟩,Ah,fun q _ _=>rfl,by omega,.inr rfl,fun i j h1 h2=>by dsimp only at h2;omega⟩ ?_
 rintro⟨s,F⟩ g h1 ⟨ir,sn,n1,fr,s1,s2,inc⟩ K hK
 dsimp only at ir sn s1 s2 inc⊢
 by_cases hsn:s<n
 ·(refine Aj ?_)
  refine wp_loop (fun t:Nat × (Nat->Int)=>[(0,.slice v n 0),(1,.int .i64 0),(2,.int .i64 n),(6,.int .i64 s),(7,.int .i64 t.1)])
   (fun t h1=>(0<n->IR r h1 n t.2 v)/\Pg n f t.2/\h.next<=h1.next/\(∀q,q<h.next->(0<n->q≠r)->h1.get q=h.get q)/\t.1<=s/\(∀i j,i<j->j<=s->i≠t.1->j≠t.1->t.2 i<t.2 j)/\∀j,t.1<j->j<=s->t.2 t.1<t.2 j) (fun t=>t.1) (s,F) ⟨rfl,rfl,rfl,rfl,rfl,trivial⟩ ⟨fun h0=>(ir h0).frame rfl,sn,Ah,fr,Nat.le_refl _,fun i j h1 h2 h3 h4=>inc i j h1 (by dsimp only at h4;omega) Al,fun j h1 h2=>by dsimp only at h1;omega⟩ ?_
  rintro⟨t,G⟩ g' h2 ⟨ir,sn,n2,fr,t1,iG,jG⟩ K' hK'
  dsimp only at ir sn t1 iG jG⊢
  have hlr:=hlr Al
  have ir:=ir Al
  obtain⟨a,rfl,hab,ints⟩:=ir.ints
  have hblk:a.block<h.next:=by omega
  by_cases ht:0<t
  ·(refine Aj ?_)
   apply Fp
   focus(exact Ao)
   focus(exact AQ)
   focus exact jQ
   ·intro hc h3 q3 n3
    have hc:=of_decide_eq_true hc
    have ir3:IR r h3 n G (some a):=ir.frame Ep
    have An9:Ints h3 a n G:=fun i hi=>by have:=ints i hi;(exact Zq)
    (refine Aj ?_)
    refine IR.sto (r:=r) (f:=G) (ir3.frame rfl) Al rfl Al fun row ir4=>?_
    (refine Aj ?_)
    refine IR.sto (r:=r) (f:=F7 G t (G (t - 1))) ir4 Al rfl Al fun row' ir5=>?_
    (refine Aj ?_)
    have at_:=lS G ht
    refine hK' (t - 1,swp G t) _ _ ⟨rfl,rfl,rfl,rfl,AK rfl (by dsimp only;omega),trivial⟩ ⟨fun _=>ir5.frame rfl,sn.swp ht Al,Ah,fun q hq1 hq2=>(Aw fun y hy=>by have:=hq2 Al;(exact Aa)).trans (fr q hq1 hq2),by dsimp only;omega,fun i j h1 h2 h3 h4=>?_,fun j h1 h2=>?_⟩ (by dsimp only;omega)
    ·dsimp only at h3 h4⊢
     rw[at_,at_,if_neg h3,if_neg h4]
     by_cases e1:i=t
     ·rw[if_pos e1,if_neg Al]
      by_cases e3:t - 1=t
      ·omega
      ·exact iG (t - 1) j Al h2 e3 Al
     ·rw[if_neg e1]
      by_cases e2:j=t
      ·rw[if_pos e2];exact iG i (t - 1) Al Al e1 Al
      ·rw[if_neg e2];exact iG i j h1 h2 e1 e2
    ·dsimp only at h1⊢
     rw[at_ (t - 1),at_ j,if_neg Al,if_pos rfl]
     by_cases e2:j=t
     ·rw[if_pos e2];exact hc
     ·rw[if_neg e2,if_neg Al];exact jG j Al h2
   ·intro hc h3 q3 n3
    have hc:=of_decide_eq_false hc
    have hne:G (t - 1)≠G t:=fun e=>by have:=sn.inj _ _ Al Al e;omega
    (refine Aj ?_)
    refine hK (s+1,G) _ _ ⟨rfl,rfl,rfl,AK rfl (by dsimp only;omega),trivial⟩ ⟨fun _=>ir.frame Ep,sn,Ah,fun q hq1 hq2=>(Aw fun y hy=>by have:=hq2 Al;(exact Aa)).trans (fr q hq1 hq2),by dsimp only;omega,by dsimp only;omega,fun i j h1 h2 h3=>?_⟩ (by dsimp only;omega)
    dsimp only at h2⊢
    by_cases e1:i=t
    ·subst e1;exact jG j h1 Al
    ·by_cases e2:j=t
     ·subst e2
      by_cases e3:i=j - 1
      ·subst e3;omega
      ·have:=iG i (j - 1) Al Al e1 Al
       omega
     ·exact iG i j h1 Al e1 e2
  ·obtain rfl:t=0:=by omega
   (refine Aj ?_)
   refine hK (s+1,G) _ _ ⟨rfl,rfl,rfl,AK rfl (by dsimp only;omega),trivial⟩ ⟨fun _=>ir.frame rfl,sn,Ah,fr,by dsimp only;omega,by dsimp only;omega,fun i j h1 h2 h3=>?_⟩ (by dsimp only;omega)
   dsimp only at h2⊢
   by_cases e:i=0
   ·subst e;exact jG j h1 Al
   ·exact iG i j h1 Al e Al
 ·(refine Aj ?_)
  (refine Au ?_)
  exact⟨F,fun i j h1 h2=>inc i j h1 Al h2,sn,fun h0=>(ir h0).frame rfl,Ah,fr⟩
theorem sY {h:H}{n:Nat}(hn:n<=3):AW Tryz.prog 293 h.next h [.int .u64 (n:Int)] (fun v h'=>∃z,v= .int .i64 z):=by
 refine y4.call rfl (Nat.le_refl _) ?_
 unfold Ahr
 obtain rfl|rfl|rfl|rfl:n=0\/n=1\/n=2\/n=3:=by omega
 ·(refine Aj ?_)
  refine Wrap.mk rfl ?_
  (refine Aj ?_)
  refine Wrap.mk (y:=0) (by kernel_rfl) ?_
  (refine Aj ?_)
  (refine Au ?_)
  exact⟨_,rfl⟩
 ·(refine Aj ?_)
  refine Wrap.mk rfl ?_
  (refine Aj ?_)
  refine Wrap.mk (y:=1) (by kernel_rfl) ?_
  (refine Aj ?_)
  (refine Au ?_)
  exact⟨_,rfl⟩
 ·(refine Aj ?_)
  refine Wrap.mk rfl ?_
  (refine Aj ?_)
  refine Wrap.mk (y:=2) (by kernel_rfl) ?_
  (refine Aj ?_)
  (refine Au ?_)
  exact⟨_,rfl⟩
 ·(refine Aj ?_)
  refine Wrap.mk rfl ?_
  (refine Aj ?_)
  refine Wrap.mk (y:=2) (by kernel_rfl) ?_
  (refine Aj ?_)
  (refine Au ?_)
  exact⟨_,rfl⟩
theorem Ady {h:H}{n:Nat}(hn:n<=3):AW Tryz.prog 204 h.next h [.int .u64 (n:Int)] (fun v h'=>∃z,v= .int .i64 z):=by
 refine zK.call rfl (Nat.le_refl _) ?_
 unfold Ah9
 (refine Aj ?_)
 apply Ar
 focus(exact Ao)
 focus(exact AQ)
 focus exact sY hn
 rintro _ h2 ⟨z,rfl⟩ q2 n2
 (refine Aj ?_)
 (refine Au ?_)
 exact⟨z,rfl⟩
theorem Adh {h:H}{lo r n:Nat}{f:Nat->Int}{v:Option Addr}{z:Int}(hlh:lo<=h.next) (hlr:0<n->lo<=r/\r<h.next) (hn:n<=3) (k:0<n->IR r h n f v) (inj:∀i j,i<n->j<n->f i=f j->i=j):
 AW Tryz.prog 203 lo h [.slice v n 0,.int .i64 0,.int .i64 (n:Int),.int .i64 z] (fun _ h'=>∃f',(∀i j,i<j->j<n->f' i<f' j)/\Pg n f f'/\(0<n->IR r h' n f' v)/\h.next<=h'.next/\∀q,q<h.next->(0<n->q≠r)->h'.get q=h.get q):=by
 refine zL.call rfl hlh ?_
 unfold a203
 (refine Aj ?_)
 refine wp_loop (fun s:Nat=>[(0,.slice v n 0),(1,.int .i64 0),(2,.int .i64 n)]) (fun s h1=>Quiet h.next h h1) (fun s=>s) 0 ⟨rfl,rfl,rfl,trivial⟩ AO ?_
 rintro s g h1 q1 K hK
 have n1:=q1.next
 (refine Aj ?_)
 apply GD
 focus exact YI (r:=r) (f:=f) Ah (fun h0=>⟨(hlr h0).1,by have:=(hlr h0).2;(exact Ah)⟩) Al (fun h0=>(k h0).frame (Aw fun y hy=>by have:=hlr h0;(exact Aa))) inj
 rintro _ h2 ⟨f',a1,a2,a3,a4,a5⟩ q2
 simp only[Bv,AY]at a4
 (refine Aj ?_)
 (refine Au ?_)
 exact⟨f',a1,a2,fun h0=>(a3 h0).frame rfl,Ah,fun q hq1 hq2=>(a5 q Ah hq2).trans Ep⟩
theorem w9 {h:H}{lo r n:Nat}{f:Nat->Int}{v:Option Addr}(hlh:lo<=h.next) (hlr:0<n->lo<=r/\r<h.next) (hn:n<=3) (k:0<n->IR r h n f v) (inj:∀i j,i<n->j<n->f i=f j->i=j):
 AW Tryz.prog 115 lo h [.slice v n 0] (fun _ h'=>∃f',(∀i j,i<j->j<n->f' i<f' j)/\Pg n f f'/\(0<n->IR r h' n f' v)/\h.next<=h'.next/\∀q,q<h.next->(0<n->q≠r)->h'.get q=h.get q):=by
 refine Aax.call rfl hlh ?_
 unfold Aiz
 (refine Aj ?_)
 apply Ar
 focus(exact Ao)
 focus(exact AQ)
 focus exact Ady hn
 rintro _ h2 ⟨z,rfl⟩ q2 n2
 (refine Aj ?_)
 apply GD
 focus exact Adh (r:=r) (f:=f) Ah (fun h0=>⟨(hlr h0).1,by have:=(hlr h0).2;(exact Ah)⟩) hn (fun h0=>(k h0).frame (Aw fun y hy=>by have:=hlr h0;(exact Aa))) inj
 rintro _ h3 ⟨f',a1,a2,a3,a4,a5⟩ q3
 (refine Aj ?_)
 (refine Au ?_)
 exact⟨f',a1,a2,fun h0=>(a3 h0).frame rfl,Ah,fun q hq1 hq2=>(a5 q Ah hq2).trans Ep⟩
end AE.Tryz.Spn
