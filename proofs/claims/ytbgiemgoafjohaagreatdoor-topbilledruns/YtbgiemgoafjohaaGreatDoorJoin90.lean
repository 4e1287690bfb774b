/- Walks and plain laws: RunD, RunE, ClerkSpec, ClerkSpec2, ClerkSpec3, ClkTop, KClkLays. -/
import Derived.Test.YtbgiemgoafjohaaGreatDoorJoin88
import Derived.Test.YtbgiemgoafjohaaGreatDoorT12Cl41
import Derived.Test.YtbgiemgoafjohaaGreatDoorAEthree
import Derived.Test.YtbgiemgoafjohaaGreatDoorProg
import Derived.Shelf.Strconv.Itoa4
import Derived.Shelf.Strings.Split
import Derived.Shelf.Strings.OnBuilder
import Derived.Shelf.SlIterI.Nil
import Derived.Shelf.SortM.Plain
import Derived.Shelf.SortM.SortNone
import Derived.Ground.GgzProg
import Derived.Ground.SlgmProg
import Derived.Shelf.SlGeneric
set_option linter.unusedVariables false
set_option linter.unusedSimpArgs false
set_option linter.unusedSectionVars false

/- Days of runs, walked: the search for a best order. -/
namespace AE
open Go Go.RowKit
section
variable {P:Program}{lo Av:Nat}{ts:Ts}{h:H}{k:Value->H->Prop}
theorem PU {a b:Aj}{Q:Exit->Ts->H->Prop}(M:Ts->H->Prop) (w:DV P lo a (fun e ts h=>e= .normal/\M ts h) ts h) (k:∀ts' h',M ts' h'->DV P lo b Q ts' h'):DV P lo (.seq a b) Q ts h:=
 wp_seq (BW a (fun e ts h ⟨he,m⟩=>by subst he;exact k ts h m) ts h w)
theorem Full.touch {b N sz n m c:Nat}{cs:List Value}{v:Option Addr}(F:∀h2:H,(∀r,b<=r->r<N->h2.get r=h.get r)->Full h2 sz n cs v c):∀y∈Ap (.slice v m c),b<=y/\y<N:=by
 have F1:=F ⟨fun r=>if b<=r/\r<N then h.get r else none,h.next⟩ fun r h1 h2=>if_pos ⟨h1,h2⟩
 rcases F1.is with⟨h0,⟨rfl,rfl⟩|⟨a,rfl,rfl⟩⟩|⟨a,rfl,hc,_,hl⟩
 ·intro y hy;simp[Ap]at hy
 ·intro y hy;simp[Ap]at hy
 ·intro y hy
  have hy:y=a.block:=by simpa[Ap,Nat.not_le.2 hc]using hy
  subst hy
  by_cases hb:b<=a.block/\a.block<N
  ·exact hb
  ·unfold H.Az at hl
   dsimp only at hl
   rw[if_neg hb]at hl
   simp at hl
end
end AE
namespace AE.Tryz
open Go AE Go.Proofs AE.Fair
set_option maxRecDepth 100000
set_option linter.unusedVariables false

def Yl (pl:Nat) (B:Ka) (ov:Int):List Value:=[.pointer (some ⟨pl,0,none⟩),.slice B.b B.n B.c,.int .i64 ov]
structure Ju (N sr m:Nat) (B:Ka) (h:H):Prop where
 ok:B.Ok m h
 gt:0<B.n->sr<B.a.block
 of:JK B.n B.f N
 c:B.c<far
theorem Ju.frame {N sr m m':Nat}{B:Ka}{h h':H}(k:Ju N sr m B h) (hs:∀r,sr<r->r<m->h'.get r=h.get r) (hm:m<=m'):Ju N sr m' B h':=by
 refine⟨⟨k.ok.e,fun i hi=>?_,fun h=>by have:=k.ok.r h;omega,k.ok.l⟩,k.gt,k.of,k.c⟩
 have h0:0<B.n:=by omega
 have:=k.ok.i i hi
 unfold H.Az at this⊢
 rw[show(BB B.a i).block=B.a.block from rfl]at this⊢
 rw[hs _ (k.gt h0) (k.ok.r h0)]
 exact this
theorem ints_at {h h':H}{a:Addr}{n:Nat}{f:Nat->Int}(k:Ints h a n f) (e:h'.get a.block=h.get a.block):Ints h' a n f:=fun i hi=>by
 have:=k i hi
 unfold H.Az at this⊢
 rw[show(BB a i).block=a.block from rfl]at this⊢
 rw[e]
 exact this
theorem WO {f:Nat->Nat}{n x:Nat}:IE f n++[.int .i64 (x:Int)]=IE (fun i=>if i<n then f i else x) (n+1):=by
 unfold IE DI
 show _=rowsOf _ n++_
 rw[Kr (f:=fun i=>[Value.int .i64 ((if i<n then f i else x:Nat):Int)]) (g:=fun i=>[Value.int .i64 ((f i:Nat):Int)]) n fun i hi=>by rw[if_pos hi]]
 dsimp only
 rw[if_neg (Nat.lt_irrefl n)]
structure J9 (D:Day) (pl sr n i:Nat) (h0 h':H):Prop where
 nx:h0.next<=h'.next
 fr:∀r,r<h0.next->r≠sr->h'.get r=h0.get r
 b:∃B ov,h'.get sr=some (.cells (Yl pl B ov) 117)/\Ju D.n sr h'.next B h'/\n<=B.n/\(n=0->0<i->1<=B.n)
theorem J9.up {D:Day}{pl sr n i:Nat}{h0 h1 h2:H}(k:J9 D pl sr n i h0 h1) (hs:sr<h0.next) (hm:Same h1.next h1 h2) (hn:h1.next<=h2.next):J9 D pl sr n i h0 h2:=by
 obtain⟨nx,fr,B,ov,g,b,c,d⟩:=k
 exact⟨by omega,fun r h1 h3=>(hm r Af).trans (fr r h1 h3),B,ov,(hm sr Af).trans g,b.frame (fun r _ h3=>hm r h3) hn,c,d⟩
theorem J9.stay {D:Day}{pl sr n i j:Nat}{h0 h1:H}(k:J9 D pl sr n i h0 h1) (hn:0<n):J9 D pl sr n j h0 h1:=by
 obtain⟨nx,fr,B,ov,g,b,c,d⟩:=k
 exact⟨nx,fr,B,ov,g,b,c,fun h=>by omega⟩
theorem Apart.below {ts:Ts}{a b:AP}{l:List (AP × AP)}{s N:Nat}(ha:∀r∈Ap (ev ts a),r<N) (hb:Ap (ev ts b)=[s]) (hlt:N<=s) (hl:Apart l ts):Apart ((a,b)::l) ts:=by
 intro p hp
 rcases List.mem_cons.1 hp with rfl|hp
 ·intro r hr
  rw[hb]
  have:=ha r hr
  simp only[List.mem_singleton]
  omega
 ·exact hl p hp
set_option maxHeartbeats 8000000 in
theorem jQ {D:Day}{pl m:Nat}{W:Nat->Int}(V:D.Valid) (hW:dD W):∀(q:Nat) {h:H} {lo sr n:Nat} {f:Nat->Nat} {v:Option Addr} {B:Ka} {over ov:Int},
 D.n - n=q->lo<=sr->sr<h.next->pl<sr->m<=sr->D.Ok m h->h.get pl=some (.cells (EM D W) 198)->h.get sr=some (.cells (Yl pl B ov) 117)->
 Grown (sr+1) h.next h 3 1 n (IE f n) v->JK n f D.n->Ju D.n sr h.next B h->0<=over/\over<=2000->(n=0->¬over<ov)->
 AW Tryz.prog 41 lo h [.pointer (some ⟨sr,0,none⟩),.slice v n 0,.int .i64 over] (fun _ h'=>∃B' pU,h'.get sr=some (.cells (Yl pl B' pU) 117)/\Ju D.n sr h'.next B' h'/\n<=B'.n/\(n=0->1<=B'.n)/\∀r,r<h.next->r≠sr->h'.get r=h.get r):=by
 intro q
 induction q using Nat.strongRecOn with
 | ind q ih=>
   intro h lo sr n f v B over ov hq hlo hsn hps hms hD gp gs G O Bt hov hz
   have v1:=V.n1
   have v2:=V.n2
   have on:=O.le
   have hq1:n<D.n->D.n - (n+1)<q:=fun h=>by omega
   have dl:=hD.l
   have dr:=hD.r
   obtain⟨a,hL,ab⟩:=Lt G Af
   refine gR.call rfl Af ?_
   unfold mN
   refine PU (fun ts' h'=>Holds ts' [(0,.pointer (some ⟨sr,0,none⟩)),(1,.slice v n 0),(2,.int .i64 over)]/\J9 D pl sr n 0 h h') ?_ ?_
   ·have nM:=hL.e
    have nL:=hL.i
    have lr1:=hL.r
    dsimp only at nM nL lr1
    unfold Yl at gs
    have bc:=Bt.c
    have sl:h.Az (BB ⟨sr,0,none⟩ 1) 1=some [.slice B.b B.n B.c]:=FR (off:=0+1) gs rfl
    by_cases lB:B.n<n\/(n=B.n/\over<ov)
    ·have hn0:0<n:=by omega
     have vA:=ab hn0
     (focus((try with_reducible apply wpC.to);(repeat'((conv=>whnf);first|refine Aw ?_|(apply Fork.mk<;>(intro _;try(exfalso;omega)))|((first|refine Dy ?_|refine Dz ?_|refine CX ?_|refine CY ?_|refine CZ ?_);first|((first|apply Ey|apply AG|apply AH)<;>intro _ _ _ _<;>try contradiction)|(apply AB;intro _ _ _))|fail));all_goals((conv=>whnf);try with_reducible apply At.mk)))
     all_goals
      apply O1 (a:=n) (b:=n)
      case hl=>exact rfl
      case hc=>exact rfl
      case hle=>omega
      case hsm=>omega
      (refine Ai ?_)
      apply bG (a:=a) (n:=n) (f:=fun i=>(f i:Int))
      case hd=>exact rfl
      case hs=>exact rfl
      case hb=>exact nM
      case hi=>exact ints_at nL D6
      case hn=>exact hn0
      case hget=>(exact Aa)
      case hlen=>rw[Iu];simp
      case hlo=>omega
      case gL=>unfold far;omega
      case hfs=>unfold far;omega
      (refine Ai ?_)
      refine⟨rfl,⟨rfl,rfl,rfl,trivial⟩,Ag,fun r h1 h3=>Ac fun y hy=>Aa,⟨n,f,some ⟨h.next+29,0,none⟩,⟨h.next+29,0,none⟩,n⟩,over,by unfold Yl;(exact Aa),⟨⟨fun _=>rfl,?_,fun _=>Ag,by dsimp only;omega⟩,fun _=>by dsimp only;omega,O,by dsimp only;unfold far;omega⟩,Nat.le_refl _,fun _ h=>absurd h (Nat.lt_irrefl 0)⟩
      exact Ints.row Aa
    ·have fin:∀h':H,Same h.next h h'->h.next<=h'.next->J9 D pl sr n 0 h h':=fun h' s1 s2=>⟨s2,fun r h1 _=>s1 r h1,B,ov,(s1 sr hsn).trans gs,Bt.frame (fun r _ h3=>s1 r h3) s2,by omega,fun _ h=>absurd h (Nat.lt_irrefl 0)⟩
     (focus((try with_reducible apply wpC.to);(repeat'((conv=>whnf);first|refine Aw ?_|(apply Fork.mk<;>(intro _;try(exfalso;omega)))|((first|refine Dy ?_|refine Dz ?_|refine CX ?_|refine CY ?_|refine CZ ?_);first|((first|apply Ey|apply AG|apply AH)<;>intro _ _ _ _<;>try contradiction)|(apply AB;intro _ _ _))|fail));all_goals((conv=>whnf);try with_reducible apply At.mk)))
     all_goals exact⟨rfl,⟨rfl,rfl,rfl,trivial⟩,fin _ AO Ag⟩
   rintro FC h1 ⟨T1,M1⟩
   refine E6 T1 fun g=>?_
   refine PU (fun ts' h'=>Holds ts' [(0,.pointer (some ⟨sr,0,none⟩)),(1,.slice v n 0),(2,.int .i64 over),(6,.int .i64 (-1))]/\J9 D pl sr n 0 h h') ?_ ?_
   ·(refine Ai ?_)
    exact⟨rfl,⟨rfl,rfl,rfl,rfl,trivial⟩,M1.up hsn AO Ag⟩
   rintro Wm h2 ⟨T2,M2⟩
   clear M1 T1 g FC
   refine E6 T2 fun g=>?_
   refine PU (fun ts' h'=>∃EI:Int,(EI= -1/\n=0\/∃b:Nat,EI=b/\b<D.n/\0<n)/\Holds ts' [(0,.pointer (some ⟨sr,0,none⟩)),(1,.slice v n 0),(2,.int .i64 over),(6,.int .i64 EI)]/\J9 D pl sr n 0 h h') ?_ ?_
   ·obtain⟨a2,hL2,_⟩:=Lt (G.frame M2.nx fun r h1 h3=>M2.fr r h3 Af) Af
    have nM:=hL2.e
    have nL:=hL2.i
    have lr1:=hL2.r
    dsimp only at nM nL lr1
    by_cases h0:n=0
    ·(refine Ai ?_)
     exact⟨rfl,_,.inl ⟨rfl,h0⟩,⟨rfl,rfl,rfl,rfl,trivial⟩,M2.up hsn AO Ag⟩
    ·(refine Ai ?_)
     exact⟨rfl,_,.inr ⟨f (n - 1),rfl,O.r _ Af,by omega⟩,⟨rfl,rfl,rfl,rfl,trivial⟩,M2.up hsn AO Ag⟩
   rintro sU h3 ⟨EI,hbef,T3,M3⟩
   clear M2 T2 g Wm
   refine E6 T3 fun g=>?_
   have PL:∀{X:H},J9 D pl sr n 0 h X\/(∃i,J9 D pl sr n i h X)->X.get pl=some (.cells (EM D W) 198):=fun k=>by
    rcases k with k|⟨i,k⟩
    ·exact(k.fr pl Af Af).trans gp
    ·exact(k.fr pl Af Af).trans gp
   refine PU (fun ts' h'=>Holds ts' [(0,.pointer (some ⟨sr,0,none⟩)),(1,.slice v n 0),(2,.int .i64 over),(6,.int .i64 EI),(69,.slice D.b D.n D.c),(70,.int .i64 D.n),(71,.int .i64 0)]/\J9 D pl sr n 0 h h') ?_ ?_
   ·have uV:=PL (.inl M3)
    obtain⟨B3,vR,g3,_⟩:=M3.b
    have vT:=M3.nx
    unfold Yl at g3
    have wy:h3.Az (BB (BB ⟨pl,0,none⟩ 0) 2) 1=some [.slice D.b D.n D.c]:=FR (off:=0+0+2) uV rfl
    (refine Ai ?_)
    exact⟨rfl,⟨rfl,rfl,rfl,rfl,rfl,rfl,rfl,trivial⟩,M3.up hsn AO Ag⟩
   rintro vM h4 ⟨T4,M4⟩
   clear M3 T3 g sU
   refine E6 T4 fun g=>?_
   (refine Ai ?_)
   refine wp_loop (fun i:Nat=>[(0,.pointer (some ⟨sr,0,none⟩)),(1,.slice v n 0),(2,.int .i64 over),(6,.int .i64 EI),(69,.slice D.b D.n D.c),(70,.int .i64 D.n),(71,.int .i64 i)]) (fun i X=>J9 D pl sr n i h X/\i<=D.n) (fun i=>D.n - i) 0 ⟨rfl,rfl,rfl,rfl,rfl,rfl,rfl,trivial⟩ ⟨M4,by omega⟩ ?_
   rintro i g5 X ⟨MX,hi⟩ K hK
   by_cases hin:i<D.n
   ·have wz:=PL (.inr ⟨i,MX⟩)
    have uq:=MX.nx
    have frX:=MX.fr
    obtain⟨BX,pS,gX,rA,su,sn⟩:=MX.b
    have GX:=G.frame uq fun r h1 h3=>frX r h3 Af
    obtain⟨aX,jI,_⟩:=Lt GX Af
    have nQ:D.Ok m X:=hD.same (fun r hr=>frX r Af Af) (Nat.le_refl _)
    have i1:=nQ.i
    have e1:=nQ.e
    unfold RunT.cells at i1
    have oK:=V.r i hin
    unfold E0 at oK
    have wF:=gX
    unfold Yl at gX
    (refine Ai ?_)
    apply Vj
    focus(exact Ae)
    focus(exact AK)
    focus exact SZ (L:=⟨n,f,v,aX,0⟩) (m:=X.next) Ag (jI.same AO (Nat.le_refl _))
    ·intro hb h6 q6 n6
     obtain⟨j,hj,_⟩:=of_decide_eq_true hb
     dsimp only at hj
     (refine Ai ?_)
     exact hK (i+1) _ _ ⟨rfl,rfl,rfl,rfl,rfl,rfl,BQ rfl Af,trivial⟩ ⟨(MX.stay Af).up hsn AO Ag,by omega⟩ Af
    intro hb h6 q6 n6
    have hnc:=of_decide_eq_false hb
    dsimp only at hnc
    (refine Ai ?_)
    apply Ak
    focus(exact Ae)
    focus(exact AK)
    focus exact dv (D:=D) (m:=m) (pl:=pl) (nx:=i) (W:=W) (EI:=EI) (over:=over) Ag (nQ.same AO (Nat.le_refl _)) V hW Ag Aa (hbef.elim (fun h=>.inl h.1) fun⟨b,h1,h2,_⟩=>.inr ⟨b,h1,h2⟩) hov hin
    rintro _ h7 ⟨at_,e,rfl,he,hbz⟩ q7 n7
    by_cases e0:e=0
    ·subst e0
     obtain⟨a1,a2⟩:=he rfl
     clear hbef hbz he
     (refine Ai ?_)
     apply Ak
     focus(exact Ae)
     focus(exact AK)
     focus exact cZ (b:=sr+1) (N:=X.next) (n:=n) (f:=f) (w:=v) (GX.frame (Nat.le_refl _) fun r h1 h3=>Ac fun y hy=>Aa) Af
     rintro _ h8 ⟨v8,c8,rfl,F8⟩ q8 n8
     (refine Ai ?_)
     apply TT (b:=sr+1) (n:=n) (m:=1) (cs:=IE f n) (nc:=[.int .i64 (i:Int)])
     case hsv=>exact rfl
     case G=>exact F8 _ fun r h1 h3=>Ac fun y hy=>by(exact Aa)
     case C=>exact Cells.one ag (by unfold far;omega) rfl rfl
     case hm=>omega
     case hb=>omega
     case hsm=>omega
     intro v9 row G9
     rw[WO]at G9
     (refine Ai ?_)
     refine Need.mk (Apart.below (fun r hr=>(Full.touch F8 r hr).2) rfl (by show X.next<=X.next+4;omega) Apart.nil) ?_
     (refine Ai ?_)
     apply En
     focus exact ih (D.n - (n+1)) (hq1 (O.add hin hnc).le) rfl hlo Ag hps hms (nQ.same AO (Nat.le_refl _)) Aa (by show _=some (A9.cells (Yl pl BX pS) 117);unfold Yl;(exact Aa)) (G9.frame Ag fun r h1 h3=>Ac fun y hy=>Aa) (O.add hin hnc) (rA.frame (fun r h1 h3=>Ac fun y hy=>Aa) Ag) ⟨by omega,by omega⟩ (fun h=>by omega)
     rintro _ h10 ⟨B',pU,g',b',c',d',fr'⟩ rI
     have n10:=rI.next
     simp only[Dv,C0]at n10
     have qT:∀r,r<h.next->r≠sr->h10.get r=h.get r:=fun r h1 h3=>(fr' r Ag h3).trans ((Ac fun y hy=>Aa).trans (frX r h1 h3))
     have vD:J9 D pl sr n (i+1) h h10:=⟨by omega,qT,B',pU,g',b',by omega,fun _ _=>by omega⟩
     (refine Ai ?_)
     exact hK (i+1) _ _ ⟨rfl,rfl,rfl,rfl,rfl,rfl,BQ rfl Af,trivial⟩ ⟨vD.up hsn AO Ag,by omega⟩ Af
    ·have hn0:0<n:=by
      rcases hbef with⟨h1,_⟩|⟨b,h1,_,h3⟩
      ·exact absurd (hbz h1) e0
      ·exact h3
     (refine Ai ?_)
     exact hK (i+1) _ _ ⟨rfl,rfl,rfl,rfl,rfl,rfl,BQ rfl Af,trivial⟩ ⟨(MX.stay Af).up hsn AO Ag,by omega⟩ Af
   ·obtain rfl:i=D.n:=by omega
    (refine Ai ?_)
    obtain⟨BX,pS,gX,rA,su,sn⟩:=MX.b
    (refine AA ?_)
    exact⟨BX,pS,(Ac fun y hy=>Aa).trans gX,rA.frame (fun r h1 h3=>Ac fun y hy=>Aa) Ag,su,fun h0=>sn h0 Af,fun r h1 h3=>(Ac fun y hy=>Aa).trans (MX.fr r h1 h3)⟩
end AE.Tryz

/- Days of runs, walked: a planner, and a best order. -/
namespace AE.Tryz
open Go AE Go.Proofs AE.Fair
set_option maxRecDepth 100000
set_option linter.unusedVariables false

structure Ig (D:Day) (h0:H) (pl r5:Nat) (X:H):Prop where
 o:h0.next<pl/\pl<r5
 nx:r5<X.next
 sm:Same h0.next h0 X
 g1:X.get h0.next=some (.cells [.int .i64 D.kl,.int .i64 D.kh,.slice D.b D.n D.c] 26)
 g5:X.get r5=some (.cells [.pointer (some ⟨pl,0,none⟩)] 112)
 w:∃W,dD W/\X.get pl=some (.cells (EM D W) 198)
theorem Ig.up {D:Day}{h0 X Y:H}{pl r5:Nat}(k:Ig D h0 pl r5 X) (hs:∀r,r<=r5->Y.get r=X.get r) (hn:X.next<=Y.next):Ig D h0 pl r5 Y:=by
 obtain⟨o,nx,sm,g1,g5,W,w,gw⟩:=k
 exact⟨o,by omega,fun r hr=>(hs r Af).trans (sm r hr),(hs _ Af).trans g1,(hs _ (Nat.le_refl _)).trans g5,W,w,(hs _ Af).trans gw⟩
theorem Ig.set {D:Day}{h0 X Y:H}{pl r5:Nat}{W:Nat->Int}(k:Ig D h0 pl r5 X) (hW:dD W) (hs:∀r,r<=r5->r≠pl->Y.get r=X.get r) (hg:Y.get pl=some (.cells (EM D W) 198)) (hn:X.next<=Y.next):Ig D h0 pl r5 Y:=by
 obtain⟨o,nx,sm,g1,g5,W,w,gw⟩:=k
 exact⟨o,by omega,fun r hr=>(hs r Af Af).trans (sm r hr),(hs _ Af Af).trans g1,(hs _ (Nat.le_refl _) Af).trans g5,_,hW,hg⟩
theorem Zl {a b:List Value}(h:a=b):Is a b:=h▸Is.rfl
structure Mm (D:Day) (h0:H) (pl r5 i k xr yr nb:Nat) (L:DN) (Z:H):Prop where
 p:Ig D h0 pl r5 Z
 x6:Z.get xr=some (.cells [.int .i64 i] 3)
 x7:Z.get (xr+1)=some (.cells (D.f i).cells 40)
 x8:Z.get yr=some (.cells [.int .i64 k] 3)
 x9:Z.get (yr+1)=some (.cells (D.f k).cells 40)
 lp:Z.get nb=some (.loop L)
 nx:nb<Z.next
 o:r5<xr/\xr+1<yr/\yr+1<nb
theorem Mm.up {D:Day}{h0 Z Z':H}{pl r5 i k xr yr nb:Nat}{L L':DN}(q:Mm D h0 pl r5 i k xr yr nb L Z) (hs:∀r,r<=yr+1->Z'.get r=Z.get r) (hl:Z'.get nb=some (.loop L')) (hn:Z.next<=Z'.next):Mm D h0 pl r5 i k xr yr nb L' Z':=by
 obtain⟨p,x6,x7,x8,x9,lp,nx,o⟩:=q
 exact⟨p.up (fun r hr=>hs r Af) hn,(hs _ Af).trans x6,(hs _ Af).trans x7,(hs _ Af).trans x8,(hs _ Af).trans x9,hl,by omega,o⟩
theorem Mm.set {D:Day}{h0 Z Z':H}{pl r5 i k xr yr nb:Nat}{L L':DN}{W:Nat->Int}(q:Mm D h0 pl r5 i k xr yr nb L Z) (hW:dD W) (hs:∀r,r<=yr+1->r≠pl->Z'.get r=Z.get r) (hg:Z'.get pl=some (.cells (EM D W) 198)) (hl:Z'.get nb=some (.loop L')) (hn:Z.next<=Z'.next):Mm D h0 pl r5 i k xr yr nb L' Z':=by
 obtain⟨p,x6,x7,x8,x9,lp,nx,o⟩:=q
 have po:=p.o
 exact⟨p.set hW (fun r hr hne=>hs r Af hne) hg hn,(hs _ Af Af).trans x6,(hs _ Af Af).trans x7,(hs _ Af Af).trans x8,(hs _ Af Af).trans x9,hl,by omega,o⟩
theorem fJ (D:Day):EM D (fun _=>0)= .int .i64 D.kl:: .int .i64 D.kh:: .slice D.b D.n D.c::List.replicate 64 (.int .i64 0):=by
 unfold EM DI
 simp only[rowsOf,List.nil_append,List.cons_append]
 rfl
set_option maxHeartbeats 8000000 in
theorem Qu {h:H}{D:Day}{m:Nat}(hm:m<=h.next) (hD:D.Ok m h) (V:D.Valid):AW Tryz.prog 40 h.next h [.agg ⟨D.cells⟩] (fun v h'=>∃pl W,v= .tuple #[.pointer (some ⟨pl,0,none⟩),.int .i64 0]/\(h.next<=pl/\pl<h'.next)/\dD W/\h'.get pl=some (.cells (EM D W) 198)):=by
 have dl:=hD.l
 have v1:=V.n1
 have v2:=V.n2
 have vk:=V.k
 refine d6.call rfl (Nat.le_refl _) ?_
 unfold a40
 unfold Day.cells
 (refine Ai ?_)
 apply Eo
 focus(exact Ae)
 focus(exact AK)
 focus exact UI (D:=D) (m:=m) Ag (hD.same AO (Nat.le_refl _)) V
 intro h1 q1 n1
 have s1:Same h.next h h1:=fun x hx=>(q1.same x Ag).trans D6
 have k1:h1.get h.next=some (.cells [.int .i64 D.kl,.int .i64 D.kh,.slice D.b D.n D.c] 26):=(q1.same _ Ag).trans Aa
 have n1':h.next+1<=h1.next:=by(exact Ag)
 clear q1 n1
 (refine Ai ?_)
 refine wp_loop (fun i:Nat=>[(1,.pointer (some ⟨h.next,0,none⟩)),(5,.pointer (some ⟨h1.next+5,0,none⟩)),(21,.slice D.b D.n D.c),(22,.int .i64 D.n),(23,.int .i64 i)]) (fun i X=>Ig D h (h1.next+4) (h1.next+5) X/\i<=D.n) (fun i=>D.n - i) 0 ⟨rfl,rfl,rfl,rfl,rfl,trivial⟩ ⟨⟨by omega,Ag,AO,Aa,Aa,fun _=>0,fun q _=>by dsimp only;omega,by rw[fJ];(exact Aa)⟩,by omega⟩ ?_
 generalize hpl:h1.next+4=pl
 generalize rQ:h1.next+5=r5
 rintro i g X ⟨PX,hi⟩ K hK
 by_cases hin:i<D.n
 ·obtain⟨o,nx,sm,g1,g5,W,w,gw⟩:=PX
  have PX:Ig D h pl r5 X:=⟨o,nx,sm,g1,g5,W,w,gw⟩
  have hD1:=hD.same (m':=m) (sm.mono hm) (Nat.le_refl _)
  have i1:=hD1.i
  have e1:=hD1.e
  have r1:=hD1.r
  unfold RunT.cells at i1
  have oK:=V.r i hin
  unfold E0 at oK
  (refine Ai ?_)
  refine wp_loop (fun k:Nat=>[(1,.pointer (some ⟨h.next,0,none⟩)),(5,.pointer (some ⟨r5,0,none⟩)),(6,.pointer (some ⟨X.next+4,0,none⟩)),(7,.pointer (some ⟨X.next+5,0,none⟩)),(21,.slice D.b D.n D.c),(22,.int .i64 D.n),(23,.int .i64 i),(29,.slice D.b D.n D.c),(30,.int .i64 D.n),(31,.int .i64 k)]) (fun k Y=>Ig D h pl r5 Y/\Y.get (X.next+4)=some (.cells [.int .i64 i] 3)/\Y.get (X.next+5)=some (.cells (D.f i).cells 40)/\X.next+5<Y.next/\k<=D.n) (fun k=>D.n - k) 0 ⟨rfl,rfl,rfl,rfl,rfl,rfl,rfl,rfl,rfl,rfl,trivial⟩ ⟨PX.up (fun r hr=>Ac fun y hy=>Aa) Ag,Aa,by unfold RunT.cells;(exact Aa),Ag,by omega⟩ ?_
  rintro k g2 Y ⟨PY,y3,y4,ny,hk⟩ K2 hK2
  by_cases hkn:k<D.n
  ·obtain⟨_,rK,oG,rZ,rY,WY,wY,rX⟩:=PY
   have hD2:=hD.same (m':=m) (oG.mono hm) (Nat.le_refl _)
   have i2:=hD2.i
   have e2:=hD2.e
   have r2:=hD2.r
   unfold RunT.cells at i2 y4
   have oJ:=V.r k hkn
   unfold E0 at oJ
   clear i1 e1 r1
   (refine Ai ?_)
   have hix:i*8+k<64:=by omega
   refine jw.mk (r:=pl) (off:=0+3+i*8+k*1) (c':=EM D (Ox WY (i*8+k) (-1))) rfl Af Aa rfl rfl (Nat.ble_eq_true_of_le (by rw[O4];show _+1<=67;omega)) (Zl (O2 hix Af)) ?_
   have P2:=Ig.set (W:=Ox WY (i*8+k) (-1)) (Y:=(((((((Y.bump 1).bump 7).put (Y.next+4) (A9.cells [Value.int IntKind.i64 0] 3)).put (Y.next+5) (A9.cells [Value.int IntKind.i64 0,Value.int IntKind.i64 0,Value.int IntKind.i64 0,Value.int IntKind.i64 0,Value.int IntKind.i64 0,Value.int IntKind.i64 0] 40)).put (Y.next+4) (A9.cells [Value.int IntKind.i64 k] 3)).put (Y.next+5) (A9.cells (D.f k).cells 40)).bump 8).put pl (.cells (EM D (Ox WY (i*8+k) (-1))) 198)) ⟨o,rK,oG,rZ,rY,WY,wY,rX⟩ (wY.upd Af) (fun r hr hne=>Ac fun y hy=>Aa) Aa Ag
   (refine Ai ?_)
   apply Ak
   focus(exact Ae)
   focus(exact AK)
   focus exact cT
   rintro _ h5 ⟨oN,rd2,rfl,⟨b1,b2⟩,⟨b3,b4⟩,hne,z1,z2⟩ q5 n5
   have b1':Y.next+23<=oN:=b1
   have b3':Y.next+23<=rd2:=b3
   have P5:Ig D h pl r5 h5:=P2.up (fun r hr=>(q5.same _ Ag).trans D6) Ag
   have x6:h5.get (X.next+4)=some (.cells [.int .i64 i] 3):=(q5.same _ Ag).trans Aa
   have x7:h5.get (X.next+5)=some (.cells (D.f i).cells 40):=(q5.same _ Ag).trans (by unfold RunT.cells;(exact Aa))
   have x8:h5.get (Y.next+4)=some (.cells [.int .i64 k] 3):=(q5.same _ Ag).trans Aa
   have x9:h5.get (Y.next+5)=some (.cells (D.f k).cells 40):=(q5.same _ Ag).trans (by unfold RunT.cells;(exact Aa))
   clear b1 b3 q5 P2 PX g1 g5 gw w rK oG rZ rY rX y3 y4 i2
   (refine Ai ?_)
   refine E6 (l:=[(1,.pointer (some ⟨h.next,0,none⟩)),(5,.pointer (some ⟨r5,0,none⟩)),(6,.pointer (some ⟨X.next+4,0,none⟩)),(7,.pointer (some ⟨X.next+5,0,none⟩)),(8,.pointer (some ⟨Y.next+4,0,none⟩)),(9,.pointer (some ⟨Y.next+5,0,none⟩)),(21,.slice D.b D.n D.c),(22,.int .i64 D.n),(23,.int .i64 i),(29,.slice D.b D.n D.c),(30,.int .i64 D.n),(31,.int .i64 k),(49,.func (.func 185) ⟨[]⟩ ⟨[.pointer (some ⟨oN,0,none⟩),.pointer (some ⟨rd2,0,none⟩)]⟩)]) ⟨rfl,rfl,rfl,rfl,rfl,rfl,rfl,rfl,rfl,rfl,rfl,rfl,rfl,trivial⟩ fun g'=>?_
   apply X3
   focus exact rfl
   focus(exact Ae)
   focus(exact Q0)
   intro L0 hL0
   refine⟨_,cC (r1:=oN) (r2:=rd2) (e0:=(D.f i).hi) (k:=D.kh) Ag Af Af hne Ag Ag Aa Aa
    (fun _ Z=>Mm D h pl r5 i k (X.next+4) (Y.next+4) h5.next L0 Z) (fun Z=>Mm D h pl r5 i k (X.next+4) (Y.next+4) h5.next (ended (busy L0) (.exit 4)) Z) ?_ ?_ ?_ ?_ ?_,?_⟩
   ·intro m1 Z Z' J q
    have:=J.nx
    exact J.up (fun r hr=>q.same _ Af) ((q.same _ Af).trans J.lp) q.next
   ·intro m1 Z row J
    exact J.up (fun r hr=>Ac fun y hy=>Aa) ((Ac fun y hy=>Aa).trans J.lp) Ag
   ·intro Z Z' J q
    have:=J.nx
    exact J.up (fun r hr=>q.same _ Af) ((q.same _ Af).trans J.lp) q.next
   ·intro m1 e1 Z hm1 J hle
    have hL1:ended (busy L0) .none=L0:=by rw[hL0];exact rfl
    have J0:=J
    obtain⟨PZ,y6,y7,y8,y9,sN,vF,yo⟩:=J
    obtain⟨_,vS,vN,wH,wG,WZ,wZ,wu⟩:=PZ
    have oI:=V.r k hkn
    unfold E0 at oI
    refine YA.call d6.mixed (A:=V2) (B:=V1) (L:=L0) (by rw[hL0];exact mD) (by rw[hL0];exact mC) sN Af Af (by rw[hL0];exact rfl) (by rw[hL0];exact rfl) ?_
    unfold YA V2
    refine E6 (l:=[(1,.pointer (some ⟨h.next,0,none⟩)),(5,.pointer (some ⟨r5,0,none⟩)),(6,.pointer (some ⟨X.next+4,0,none⟩)),(8,.pointer (some ⟨Y.next+4,0,none⟩)),(9,.pointer (some ⟨Y.next+5,0,none⟩)),(50,.int .i64 m1),(51,.int .i64 e1)]) ⟨by rw[hL0];exact rfl,by rw[hL0];exact rfl,by rw[hL0];exact rfl,by rw[hL0];exact rfl,by rw[hL0];exact rfl,by rw[hL0];exact rfl,by rw[hL0];exact rfl,trivial⟩ fun g''=>?_
    unfold RunT.cells at y7 y9
    (refine Ai ?_)
    refine⟨rfl,L0,Aa,by rw[hL0];exact rfl,?_⟩
    unfold V1
    (focus((try with_reducible apply wpC.to);(repeat'((conv=>whnf);first|refine Aw ?_|(apply Fork.mk<;>(intro _;try(exfalso;omega)))|((first|refine Dy ?_|refine Dz ?_|refine CX ?_|refine CY ?_|refine CZ ?_);first|((first|apply Ey|apply AG|apply AH)<;>intro _ _ _ _<;>try contradiction)|(apply AB;intro _ _ _))|fail));all_goals((conv=>whnf);try with_reducible apply At.mk)))
    ·have qG:i*8+k<64:=by omega
     have po:=P5.o
     refine jw.mk (r:=pl) (off:=0+3+i*8+k*1) (c':=EM D (Ox WZ (i*8+k) m1)) rfl Af Aa rfl rfl (Nat.ble_eq_true_of_le (by rw[O4];show _+1<=67;omega)) (Zl (O2 qG Af)) ?_
     (refine Ai ?_)
     refine⟨.exit 4,_,rfl,Aa,⟨.inr ⟨rfl,?_⟩,Ac fun y hy=>Aa,Ac fun y hy=>Aa⟩⟩
     exact J0.set (W:=Ox WZ (i*8+k) m1) (wZ.upd Af) (fun r hr hne=>Ac fun y hy=>Aa) Aa Aa Ag
    ·refine⟨.none,_,rfl,Aa,⟨.inl ⟨rfl,?_⟩,Ac fun y hy=>Aa,Ac fun y hy=>Aa⟩⟩
     rw[hL1]
     exact J0.up (fun r hr=>Ac fun y hy=>Aa) Aa Ag
   ·exact⟨P5.up (fun r hr=>Ac fun y hy=>Aa) Ag,Aa,Aa,Aa,Aa,Aa,Ag,by omega,by omega,by omega⟩
   ·rintro v Z hR qZ
    rcases hR with⟨m1,J⟩|J
    ·refine⟨_,J.lp,by rw[hL0];simp[FD],?_⟩
     rw[hL0]
     simp only[FD,F0]
     (refine Ai ?_)
     have nZ:=J.nx
     exact hK2 (k+1) _ _ ⟨rfl,rfl,rfl,rfl,rfl,rfl,rfl,rfl,rfl,BQ rfl Af,trivial⟩ ⟨J.p.up (fun r hr=>Ac fun y hy=>Aa) Ag,(Ac fun y hy=>Aa).trans J.x6,(Ac fun y hy=>Aa).trans J.x7,Ag,by omega⟩ Af
    ·refine⟨_,J.lp,by rw[hL0];simp[FD,ended,busy,Nq],?_⟩
     rw[hL0]
     simp only[FD,ended,busy,F0]
     (refine Ai ?_)
     have nZ:=J.nx
     exact hK2 (k+1) _ _ ⟨rfl,rfl,rfl,rfl,rfl,rfl,rfl,rfl,rfl,BQ rfl Af,trivial⟩ ⟨J.p.up (fun r hr=>Ac fun y hy=>Aa) Ag,(Ac fun y hy=>Aa).trans J.x6,(Ac fun y hy=>Aa).trans J.x7,Ag,by omega⟩ Af
  ·obtain rfl:k=D.n:=by omega
   (refine Ai ?_)
   exact hK (i+1) _ _ ⟨rfl,rfl,rfl,rfl,BQ rfl Af,trivial⟩ ⟨PY.up (fun r hr=>Ac fun y hy=>Aa) Ag,by omega⟩ Af
 ·obtain rfl:i=D.n:=by omega
  obtain⟨o,nx,sm,g1,g5,W,w,gw⟩:=PX
  (refine Ai ?_)
  (refine AA ?_)
  exact⟨pl,W,rfl,⟨by omega,Ag⟩,w,Aa⟩
set_option maxHeartbeats 2000000 in
theorem ji {h:H}{D:Day}{m:Nat}(hm:m<=h.next) (hD:D.Ok m h) (V:D.Valid):AW Tryz.prog 10 h.next h [.agg ⟨D.cells⟩] (fun v h'=>∃B:Ka,v= .tuple #[.slice B.b B.n B.c,.int .i64 0]/\B.Ok h'.next h'/\JK B.n B.f D.n/\1<=B.n):=by
 have dl:=hD.l
 have v1:=V.n1
 have v2:=V.n2
 refine l9.call rfl (Nat.le_refl _) ?_
 unfold sL
 unfold Day.cells
 (refine Ai ?_)
 apply Ak
 focus(exact Ae)
 focus(exact AK)
 focus exact Qu (D:=D) (m:=m) Ag (hD.same AO (Nat.le_refl _)) V
 rintro _ h1 ⟨pl,W,rfl,⟨p1,p2⟩,hW,gp⟩ q1 n1
 have s1:Same h.next h h1:=fun x hx=>(q1.same x Ag).trans D6
 simp only[Dv,C0]at p1
 clear q1
 (refine Ai ?_)
 apply En
 focus exact jQ (sr:=h1.next+4) (pl:=pl) (W:=W) (n:=0) (f:=fun _=>0) (v:=none) (over:=0) (ov:=0) (B:=⟨0,fun _=>0,none,⟨0,0,none⟩,0⟩) (m:=m) V hW _ rfl Af Ag Af Af (hD.same AO (Nat.le_refl _)) Aa (by unfold Yl;(exact Aa)) (by simp only[IE,DI,rowsOf];exact Grown.nil) JK.nil ⟨⟨fun h=>absurd h (Nat.lt_irrefl 0),fun i hi=>absurd hi (Nat.not_lt_zero i),fun h=>absurd h (Nat.lt_irrefl 0),by decide⟩,fun h=>absurd h (Nat.lt_irrefl 0),JK.nil,by decide⟩ ⟨by omega,by omega⟩ (fun _=>by omega)
 rintro _ h2 ⟨B,ov,g2,bt, -,b1,fr⟩ q2
 have n2:=q2.next
 simp only[Dv,C0]at n2
 unfold Yl at g2
 have bc:=bt.c
 (refine Ai ?_)
 (refine AA ?_)
 exact⟨B,rfl,bt.ok.same (m:=h2.next) AO Ag,bt.of,b1 rfl⟩
end AE.Tryz

/- The clerk's texts and seals, in plain words. -/
namespace AE.Clerk


def dec (n:Nat):List Nat:=if n<10 then[48+n]else dec (n / 10)++[48+n%10]
termination_by n
decreasing_by omega
theorem dec_lt {n:Nat}(h:n<10):dec n=[48+n]:=by rw[dec,if_pos h]
theorem QW {n:Nat}(h:10<=n):dec n=dec (n / 10)++[48+n%10]:=by rw[dec,if_neg Af]
theorem Xx {n:Nat}:∀c∈dec n,48<=c/\c<=57:=by
 induction n using Nat.strongRecOn with
 | ind n ih=>
   rcases Nat.lt_or_ge n 10 with h|h
   ·rw[dec_lt h];intro c hc;simp at hc;omega
   ·rw[QW h]
    intro c hc
    rcases List.mem_append.1 hc with hc|hc
    ·exact ih (n / 10) Af c hc
    ·simp at hc;omega
def P:Int:=2147483647
def Sl (n:Int) (c:Nat):Int:=(257*n+(c:Int)+1)%P
def leaf (l:List Nat):Int:=l.foldl Sl 1
def node (x y:Int):Int:=(1000003*x+20011*y+7)%P
theorem Y8 (n:Int) (c:Nat):0<=Sl n c/\Sl n c<P:=⟨Int.emod_nonneg _ (by decide),Int.emod_lt_of_pos _ (by decide)⟩
theorem cw (l:List Nat):0<=leaf l/\leaf l<P:=by
 unfold leaf
 rcases List.eq_nil_or_concat l with rfl|⟨m,c,rfl⟩
 ·simp[P]
 ·rw[List.concat_eq_append,List.foldl_append];exact Y8 _ _
end AE.Clerk

/- The clerk's lines and books, in plain words. -/
namespace AE.Clerk
set_option linter.unusedVariables false

structure Ln where
 k:Int
 m:Int
 a:Int
 b:Int
instance:DecidableEq Ln:=fun x y=>decidable_of_iff (x.k=y.k/\x.m=y.m/\x.a=y.a/\x.b=y.b) ⟨fun h=>by cases x;cases y;simp only at h;obtain⟨rfl,rfl,rfl,rfl⟩:=h;rfl,fun h=>h▸⟨rfl,rfl,rfl,rfl⟩⟩
def CP (n lo hi:Int):Prop:=lo<=n/\n<=hi
instance (n lo hi:Int):Decidable (CP n lo hi):=by unfold CP;infer_instance
def Ln.Valid (M:Int) (x:Ln):Prop:=
 (x.k=0/\x.m=0/\CP x.a 1 1000000/\x.b=0)\/
 (CP x.m 1 M/\((x.k=1/\CP x.a 1 1000000/\CP x.b 0 1000)\/((x.k=2\/x.k=4)/\x.a=0/\x.b=0)\/(x.k=3/\CP x.a 1 1000000/\CP x.b 0 1000000)\/
  (x.k=5/\CP x.a 1 1000000/\x.b=0)\/(x.k=6/\CP x.a 1 1000000000/\x.b=0)\/(x.k=7/\CP x.a 0 59/\x.b=0)))
instance (M:Int) (x:Ln):Decidable (x.Valid M):=by unfold Ln.Valid;infer_instance
def word (k:Int):List Nat:=
 if k=0 then[98,117,121]else if k=1 then[100,114,97,119]else if k=2 then[99,117,116]else if k=3 then[114,117,110]else if k=4 then[109,101,108,116]else
 if k=5 then[98,105,108,108]else if k=6 then[112,97,121]else[99,108,97,105,109]
def Ln.nums (x:Ln):List Int:=if x.k=0 then[x.a]else if x.k=1\/x.k=3 then[x.m,x.a,x.b]else if x.k=2\/x.k=4 then[x.m]else[x.m,x.a]
def sep (n:Int):List Nat:=32::dec n.toNat
def Ln.text (x:Ln):List Nat:=word x.k++x.nums.flatMap sep
def SC:Nat->Nat->Nat->Nat
 |0,k,_=>k
 |t+1,k,n=>if k<n - k then SC t (2*k) n else k
def half (n:Nat):Nat:=SC n 1 n
theorem SB:∀{t k n:Nat},1<=k->k<n->1<=SC t k n/\SC t k n<n
 |0,k,n,h1,h2=>⟨h1,h2⟩
 | t+1,k,n,h1,h2=>by
   unfold SC
   split
   ·exact SB Af Af
   ·exact⟨h1,h2⟩
theorem VH {n:Nat}(h:2<=n):1<=half n/\half n<n:=SB Af Af
def root (f:Nat->Ln) (a n:Nat):Int:=
 if h0:n=0 then 0 else if h1:n=1 then leaf (f a).text else node (root f a (half n)) (root f (a+half n) (n - half n))
termination_by n
decreasing_by
 all_goals
  have:=VH (n:=n) Af
  omega
def parts (a n i:Nat):List (Nat × Nat × Bool):=
 if h:n<=1 then[]else if i<half n then parts a (half n) i++[(a+half n,n - half n,false)]else parts (a+half n) (n - half n) (i - half n)++[(a,half n,true)]
termination_by n
decreasing_by
 all_goals
  have:=VH (n:=n) Af
  omega
end AE.Clerk

/- The clerk's book replayed, in plain words. -/
namespace AE.Clerk

structure CU where
 no:Int
 stage:Int
 E7:Int
 runs:Int
 opn:Int
 billed:Int
 claimed:Int
 paid:Int
 loss:Int
deriving DecidableEq
structure Rn where
 at_:Nat
 no:Int
 cost:Int
 back:Bool
deriving DecidableEq
structure St where
 BS:Int
 lost:Int
 ms:List CU
 rs:List Rn
deriving DecidableEq
def St.zero:St:=⟨0,0,[],[]⟩
def St.find (s:St) (n:Int):Option Nat:=s.ms.findIdx? fun m=>decide (m.no=n)
def St.run (s:St) (n:Int):Option Nat:=s.rs.findIdx? fun r=>decide ((r.at_:Int)=n)
def drawn (x:Ln):CU:=⟨x.m,0,x.a,0,0,0,0,0,(x.a*x.b+999) / 1000⟩
def Cy (n a:Int) (r:Rn):Rn:=if r.no=n/\r.cost=0 then{r with cost:=a}else r
def act (x:Ln) (at_:Nat) (s:St) (i:Nat) (m:CU):St × Int:=
 if x.k=2 then
  if m.stage≠0 then(s,9)else if s.BS - m.E7 - m.loss<0 then(s,10)else
  (⟨s.BS - (m.E7+m.loss),s.lost+m.loss,s.ms.set i {m with stage:=1},s.rs⟩,0)
 else if x.k=3 then
  if m.stage≠1 then(s,9)else(⟨s.BS,s.lost,s.ms.set i {m with runs:=m.runs+1,opn:=m.opn+1},s.rs++[⟨at_,x.m,0,false⟩]⟩,0)
 else if x.k=4 then
  if m.stage≠1 then(s,9)else(⟨s.BS+m.E7,s.lost,s.ms.set i {m with stage:=2},s.rs⟩,0)
 else if x.k=5 then
  if m.opn=0 then(s,16)else(⟨s.BS,s.lost,s.ms.set i {m with billed:=m.billed+m.opn*x.a,opn:=0},s.rs.map (Cy x.m x.a)⟩,0)
 else if x.k=6 then
  if x.a>m.billed - m.claimed - m.paid then(s,4)else(⟨s.BS,s.lost,s.ms.set i {m with paid:=m.paid+x.a},s.rs⟩,0)
 else match s.run x.a with
  |none=>(s,23)
  | some j=>match s.rs[j]? with
    |none=>(s,23)
    | some r=>if r.cost=0\/r.back=true\/r.no≠x.m then(s,23)else
      (⟨s.BS,s.lost,s.ms.set i {m with claimed:=m.claimed+r.cost},s.rs.set j {r with back:=true}⟩,0)
def step (x:Ln) (at_:Nat) (s:St):St × Int:=
 if x.k=0 then(⟨s.BS+x.a,s.lost,s.ms,s.rs⟩,0)else
 match s.find x.m with
 |none=>if x.k=1 then(⟨s.BS,s.lost,s.ms++[drawn x],s.rs⟩,0)else(s,5)
 | some i=>match s.ms[i]? with
   |none=>(s,5)
   |some m=>if x.k=1 then(s,11)else act x at_ s i m
def after (f:Nat->Ln):Nat->St
 |0=>.zero
 |n+1=>(step (f n) n (after f n)).1
def Ee (f:Nat->Ln) (n:Nat):Int:=(step (f n) n (after f n)).2
theorem Xt {s:St}{n:Int}{i:Nat}(h:s.find n=some i):∃m,s.ms[i]? =some m/\m.no=n:=by
 unfold St.find at h
 rw[List.findIdx?_eq_some_iff_getElem]at h
 obtain⟨hi,h1, -⟩:=h
 exact⟨s.ms[i],by simp[hi],by simpa using h1⟩
end AE.Clerk

/- Books of the Top laws of chapter 12, replayed in plain words. -/
set_option linter.unusedVariables false
namespace AE.Clerk

theorem Xy {f:Nat->Ln}{no bought E7 part:Int}(h0:f 0=⟨0,0,bought,0⟩) (h1:f 1=⟨1,no,E7,part⟩) (h2:f 2=⟨2,no,0,0⟩) (hs:0<=bought - E7 - (E7*part+999) / 1000):
 after f 3=⟨bought - (E7+(E7*part+999) / 1000),(E7*part+999) / 1000,[⟨no,1,E7,0,0,0,0,0,(E7*part+999) / 1000⟩],[]⟩/\Ee f 0=0/\Ee f 1=0/\Ee f 2=0:=by
 have a1:after f 1=⟨bought,0,[],[]⟩:=by simp[after,step,h0,St.zero]
 have e1:step (f 1) 1 (after f 1)=(⟨bought,0,[⟨no,0,E7,0,0,0,0,0,(E7*part+999) / 1000⟩],[]⟩,0):=by
  rw[a1,h1];simp[step,St.find,drawn]
 have a2:after f 2=⟨bought,0,[⟨no,0,E7,0,0,0,0,0,(E7*part+999) / 1000⟩],[]⟩:=by
  show(step (f 1) 1 (after f 1)).1=_
  rw[e1]
 have e2:step (f 2) 2 (after f 2)=(⟨bought - (E7+(E7*part+999) / 1000),(E7*part+999) / 1000,[⟨no,1,E7,0,0,0,0,0,(E7*part+999) / 1000⟩],[]⟩,0):=by
  rw[a2,h2]
  simp[step,St.find,act]
  omega
 refine⟨?_,?_,?_,?_⟩
 ·show(step (f 2) 2 (after f 2)).1=_
  rw[e2]
 ·simp[Ee,step,h0]
 ·show(step (f 1) 1 (after f 1)).2=0
  rw[e1]
 ·show(step (f 2) 2 (after f 2)).2=0
  rw[e2]
theorem Ni {f:Nat->Ln}{no AX:Int}{k:Nat}(h0:f 0=⟨0,0,AX,0⟩) (h1:f 1=⟨1,no,AX,0⟩) (h2:f 2=⟨2,no,0,0⟩) (hr:∀i,i<k->(f (3+i)).k=3/\(f (3+i)).m=no):
 ∀j,j<=k->after f (3+j)=⟨0,0,[⟨no,1,AX,j,j,0,0,0,0⟩],(List.range j).map fun i=>⟨3+i,no,0,false⟩⟩/\∀i,i<3+j->Ee f i=0
 | 0,_=>by
   have e0:(AX*0+999) / 1000=0:=by omega
   obtain⟨a,e1,e2,e3⟩:=Xy h0 h1 h2 Af
   rw[e0]at a
   refine⟨by rw[show 3+0=3 from rfl,a];simp,fun i hi=>?_⟩
   rcases(show i=0\/i=1\/i=2 by omega)with rfl|rfl|rfl<;>assumption
 | j +1,hj=>by
   obtain⟨a,e⟩:=Ni h0 h1 h2 hr j Af
   obtain⟨x1,x2⟩:=hr j Af
   have st:step (f (3+j)) (3+j) (after f (3+j))=(⟨0,0,[⟨no,1,AX,j+1,j+1,0,0,0,0⟩],((List.range j).map fun i=>⟨3+i,no,0,false⟩)++[⟨3+j,no,0,false⟩]⟩,0):=by
    rw[a]
    unfold step
    simp[x1,x2,St.find,act]
   refine⟨?_,fun i hi=>?_⟩
   ·show(step (f (3+j)) (3+j) (after f (3+j))).1=_
    rw[st,List.range_succ,List.map_append]
    simp
   ·by_cases ei:i=3+j
    ·subst ei
     show(step (f (3+j)) (3+j) (after f (3+j))).2=0
     rw[st]
    ·exact e i Af
theorem Yy {s l:Int}{ms:List CU}{k w:Nat}{no:Int}{c:Nat->Int}{b:Nat->Bool}(hw:w<k):(⟨s,l,ms,(List.range k).map fun i=>⟨3+i,no,c i,b i⟩⟩:St).run (3+w)=some w:=by
 unfold St.run
 rw[List.findIdx?_eq_some_iff_getElem]
 refine⟨by simpa using hw,by simp,fun j hj=>?_⟩
 simp
 omega
theorem UO {f:Nat->Ln}{no AX cost:Int}{k:Nat}(h0:f 0=⟨0,0,AX,0⟩) (h1:f 1=⟨1,no,AX,0⟩) (h2:f 2=⟨2,no,0,0⟩) (hr:∀i,i<k->(f (3+i)).k=3/\(f (3+i)).m=no) (hk:0<k) (hb:f (3+k)=⟨5,no,cost,0⟩):
 after f (3+k+1)=⟨0,0,[⟨no,1,AX,k,0,k*cost,0,0,0⟩],(List.range k).map fun i=>⟨3+i,no,cost,false⟩⟩/\∀i,i<3+k+1->Ee f i=0:=by
 obtain⟨a,e⟩:=Ni h0 h1 h2 hr k (Nat.le_refl _)
 have st:step (f (3+k)) (3+k) (after f (3+k))=(⟨0,0,[⟨no,1,AX,k,0,k*cost,0,0,0⟩],(List.range k).map fun i=>⟨3+i,no,cost,false⟩⟩,0):=by
  rw[a,hb]
  unfold step
  have:¬(k=0):=by omega
  simp[St.find,act,Cy,this]
 refine⟨?_,fun i hi=>?_⟩
 ·show(step (f (3+k)) (3+k) (after f (3+k))).1=_
  rw[st]
 ·by_cases ei:i=3+k
  ·subst ei
   show(step (f (3+k)) (3+k) (after f (3+k))).2=0
   rw[st]
  ·exact e i Af
theorem YL {no AX b p:Int}{k at_:Nat}{rs:List Rn}(hp:p<=b):step ⟨6,no,p,0⟩ at_ ⟨0,0,[⟨no,1,AX,k,0,b,0,0,0⟩],rs⟩=(⟨0,0,[⟨no,1,AX,k,0,b,0,p,0⟩],rs⟩,0):=by
 unfold step
 have:¬b<p:=by omega
 simp[St.find,act,this]
theorem UH {no AX b c p cost:Int}{k w at_:Nat}(hw:w<k) (hc:cost≠0):
 step ⟨7,no,3+w,0⟩ at_ ⟨0,0,[⟨no,1,AX,k,0,b,c,p,0⟩],(List.range k).map fun i=>⟨3+i,no,cost,false⟩⟩=(⟨0,0,[⟨no,1,AX,k,0,b,c+cost,p,0⟩],((List.range k).map fun i=>(⟨3+i,no,cost,false⟩:Rn)).set w ⟨3+w,no,cost,true⟩⟩,0):=by
 unfold step
 have h:=Yy (s:=0) (l:=0) (ms:=[⟨no,1,AX,k,0,b,c,p,0⟩]) (no:=no) (c:=fun _=>cost) (b:=fun _=>false) hw
 have hg:((List.range k).map fun i=>(⟨3+i,no,cost,false⟩:Rn))[w]? =some ⟨3+w,no,cost,false⟩:=by simp[hw]
 simp only[St.find,act,h,hg]
 simp[hc]
theorem Xz {no AX b c p cost:Int}{k w at_:Nat}(hw:w<k):
 step ⟨7,no,3+w,0⟩ at_ ⟨0,0,[⟨no,1,AX,k,0,b,c,p,0⟩],((List.range k).map fun i=>(⟨3+i,no,cost,false⟩:Rn)).set w ⟨3+w,no,cost,true⟩⟩=(⟨0,0,[⟨no,1,AX,k,0,b,c,p,0⟩],((List.range k).map fun i=>(⟨3+i,no,cost,false⟩:Rn)).set w ⟨3+w,no,cost,true⟩⟩,23):=by
 have e:((List.range k).map fun i=>(⟨3+i,no,cost,false⟩:Rn)).set w ⟨3+w,no,cost,true⟩=(List.range k).map fun i=>(⟨3+i,no,cost,decide (i=w)⟩:Rn):=by
  apply List.ext_getElem
  ·simp
  ·intro i h1 h2
   rw[List.getElem_set]
   by_cases h:w=i
   ·subst h;simp
   ·have:¬i=w:=fun h'=>h h'.symm
    simp[h,this]
 rw[e]
 have h:=Yy (s:=0) (l:=0) (ms:=[⟨no,1,AX,k,0,b,c,p,0⟩]) (no:=no) (c:=fun _=>cost) (b:=fun i=>decide (i=w)) hw
 have hg:((List.range k).map fun i=>(⟨3+i,no,cost,decide (i=w)⟩:Rn))[w]? =some ⟨3+w,no,cost,true⟩:=by simp[hw]
 unfold step
 simp only[St.find,act,h,hg]
 simp
end AE.Clerk

/-
  DERIVED: THE SHELF's CONTRACTS AT THIS DUMP, IN PLAIN WORDS (tools/lay-plain.mjs out of 'ClkLaysIn.lean', which tools/lay-shelf.mjs wrote): THE SAME DECLARATIONS UNDER THE SAME NAMES: 'import', 'namespace', 'open', 'def', 'theorem' AND NOTHING ELSE: no command of the shelf's: FOR A HAND-IN. Each laying: the table of numbers ('.._ren') and one theorem, a field a fact of the dump's own or the kernel's comparison; each contract: ONE APPLICATION.
-/
namespace Go.Proofs
open Go.Shelf
def Tryz.lays173_ren:Go.Shelf.Ren:=⟨fun|173=>206|246=>278|283=>375|284=>376|285=>377|286=>378|129=>373|317=>473|318=>474|319=>475|320=>476|337=>553|338=>554|n=>n,fun|2=>2|3=>3|9=>9|4=>4|171=>519|0=>0|53=>515|37=>101|5=>5|173=>521|212=>642|51=>86|20=>20|213=>643|46=>417|232=>775|233=>776|n=>n,fun|17=>0|18=>4|19=>5|n=>n⟩
theorem Tryz.lays173:Go.Proofs.LaysM.n173 Tryz.prog Tryz.lays173_ren:={
 mixed:=by kernel_rfl
 f129:=Tryz.func373.trans (congrArg some (by kernel_rfl))
 f173:=Tryz.func206.trans (congrArg some (by kernel_rfl))
 f246:=Tryz.func278.trans (congrArg some (by kernel_rfl))
 f283:=Tryz.func375.trans (congrArg some (by kernel_rfl))
 f284:=Tryz.func376.trans (congrArg some (by kernel_rfl))
 f285:=Tryz.func377.trans (congrArg some (by kernel_rfl))
 f286:=Tryz.func378.trans (congrArg some (by kernel_rfl))
 f317:=Tryz.func473.trans (congrArg some (by kernel_rfl))
 f318:=Tryz.func474.trans (congrArg some (by kernel_rfl))
 f319:=Tryz.func475.trans (congrArg some (by kernel_rfl))
 f320:=Tryz.func476.trans (congrArg some (by kernel_rfl))
 f337:=Tryz.func553.trans (congrArg some (by kernel_rfl))
 f338:=Tryz.func554.trans (congrArg some (by kernel_rfl))
 t0:=Tryz.underlying0
 a0:=Tryz.isAgg0
 z0:=Tryz.sizeOf0
 v0:=Tryz.zeroValue0
 t2:=Tryz.underlying2
 a2:=Tryz.isAgg2
 z2:=Tryz.sizeOf2
 v2:=Tryz.zeroValue2
 t3:=Tryz.underlying3
 a3:=Tryz.isAgg3
 z3:=Tryz.sizeOf3
 v3:=Tryz.zeroValue3
 t4:=Tryz.underlying4
 a4:=Tryz.isAgg4
 z4:=Tryz.sizeOf4
 v4:=Tryz.zeroValue4
 t5:=Tryz.underlying5
 a5:=Tryz.isAgg5
 z5:=Tryz.sizeOf5
 v5:=Tryz.zeroValue5
 t9:=Tryz.underlying9
 a9:=Tryz.isAgg9
 z9:=Tryz.sizeOf9
 v9:=Tryz.zeroValue9
 t20:=Tryz.underlying20
 a20:=Tryz.isAgg20
 z20:=Tryz.sizeOf20
 v20:=Tryz.zeroValue20
 t37:=Tryz.underlying101
 a37:=Tryz.isAgg101
 z37:=Tryz.sizeOf101
 v37:=Tryz.zeroValue101
 t46:=Tryz.underlying417
 a46:=Tryz.isAgg417
 z46:=Tryz.sizeOf417
 v46:=Tryz.zeroValue417
 t51:=Tryz.underlying86
 a51:=Tryz.isAgg86
 z51:=Tryz.sizeOf86
 v51:=Tryz.zeroValue86
 t53:=Tryz.underlying515
 a53:=Tryz.isAgg515
 z53:=Tryz.sizeOf515
 v53:=Tryz.zeroValue515
 t171:=Tryz.underlying519
 a171:=Tryz.isAgg519
 z171:=Tryz.sizeOf519
 v171:=Tryz.zeroValue519
 t173:=Tryz.underlying521
 a173:=Tryz.isAgg521
 z173:=Tryz.sizeOf521
 v173:=Tryz.zeroValue521
 t212:=Tryz.underlying642
 a212:=Tryz.isAgg642
 z212:=Tryz.sizeOf642
 v212:=Tryz.zeroValue642
 t213:=Tryz.underlying643
 a213:=Tryz.isAgg643
 z213:=Tryz.sizeOf643
 t232:=Tryz.underlying775
 a232:=Tryz.isAgg775
 z232:=Tryz.sizeOf775
 v232:=Tryz.zeroValue775
 t233:=Tryz.underlying776
 a233:=Tryz.isAgg776
 z233:=Tryz.sizeOf776
 v233:=Tryz.zeroValue776
 g17:=by kernel_rfl
 g18:=by kernel_rfl
 g19:=by kernel_rfl
 i0:=by kernel_rfl
 i2:=by kernel_rfl
 i3:=by kernel_rfl
 i4:=by kernel_rfl
 i5:=by kernel_rfl
 i9:=by kernel_rfl
 i20:=by kernel_rfl
 i37:=by kernel_rfl
 i46:=by kernel_rfl
 i51:=by kernel_rfl
 i53:=by kernel_rfl
 i171:=by kernel_rfl
 i173:=by kernel_rfl
 i212:=by kernel_rfl
 i232:=by kernel_rfl
 i233:=by kernel_rfl
 m17:=by kernel_rfl
 m18:=by kernel_rfl
 m19:=by kernel_rfl}
def Tryz.lays169_ren:Go.Shelf.Ren:=⟨fun|169=>207|n=>n,fun|70=>325|9=>9|0=>0|72=>327|37=>101|127=>426|3=>3|5=>5|n=>n,fun|n=>n⟩
theorem Tryz.lays169:Go.Proofs.Lays.n169 Tryz.prog Tryz.lays169_ren:={
 mixed:=by kernel_rfl
 f169:=Tryz.func207.trans (congrArg some (by kernel_rfl))
 t0:=Tryz.underlying0
 a0:=Tryz.isAgg0
 z0:=Tryz.sizeOf0
 v0:=Tryz.zeroValue0
 t3:=Tryz.underlying3
 a3:=Tryz.isAgg3
 z3:=Tryz.sizeOf3
 v3:=Tryz.zeroValue3
 t9:=Tryz.underlying9
 a9:=Tryz.isAgg9
 z9:=Tryz.sizeOf9
 v9:=Tryz.zeroValue9
 t37:=Tryz.underlying101
 a37:=Tryz.isAgg101
 z37:=Tryz.sizeOf101
 v37:=Tryz.zeroValue101
 t70:=Tryz.underlying325
 a70:=Tryz.isAgg325
 z70:=Tryz.sizeOf325
 v70:=Tryz.zeroValue325
 t72:=Tryz.underlying327
 a72:=Tryz.isAgg327
 z72:=Tryz.sizeOf327
 v72:=Tryz.zeroValue327
 t127:=Tryz.underlying426
 a127:=Tryz.isAgg426
 z127:=Tryz.sizeOf426
 v127:=Tryz.zeroValue426}
def Tryz.lays143_ren:Go.Shelf.Ren:=⟨fun|143=>361|219=>466|217=>548|225=>549|224=>550|267=>551|266=>597|314=>598|n=>n,fun|9=>9|3=>3|4=>4|5=>5|46=>417|146=>773|51=>86|n=>n,fun|1=>1|n=>n⟩
theorem Tryz.lays143:Go.Proofs.Lays.n143 Tryz.prog Tryz.lays143_ren:={
 mixed:=by kernel_rfl
 f143:=Tryz.func361.trans (congrArg some (by kernel_rfl))
 f217:=Tryz.func548.trans (congrArg some (by kernel_rfl))
 f219:=Tryz.func466.trans (congrArg some (by kernel_rfl))
 f224:=Tryz.func550.trans (congrArg some (by kernel_rfl))
 f225:=Tryz.func549.trans (congrArg some (by kernel_rfl))
 f266:=Tryz.func597.trans (congrArg some (by kernel_rfl))
 f267:=Tryz.func551.trans (congrArg some (by kernel_rfl))
 f314:=Tryz.func598.trans (congrArg some (by kernel_rfl))
 t3:=Tryz.underlying3
 a3:=Tryz.isAgg3
 z3:=Tryz.sizeOf3
 v3:=Tryz.zeroValue3
 t4:=Tryz.underlying4
 a4:=Tryz.isAgg4
 z4:=Tryz.sizeOf4
 v4:=Tryz.zeroValue4
 t5:=Tryz.underlying5
 a5:=Tryz.isAgg5
 z5:=Tryz.sizeOf5
 v5:=Tryz.zeroValue5
 t9:=Tryz.underlying9
 a9:=Tryz.isAgg9
 z9:=Tryz.sizeOf9
 v9:=Tryz.zeroValue9
 t46:=Tryz.underlying417
 a46:=Tryz.isAgg417
 z46:=Tryz.sizeOf417
 v46:=Tryz.zeroValue417
 t51:=Tryz.underlying86
 a51:=Tryz.isAgg86
 z51:=Tryz.sizeOf86
 v51:=Tryz.zeroValue86
 t146:=Tryz.underlying773
 a146:=Tryz.isAgg773
 z146:=Tryz.sizeOf773
 v146:=Tryz.zeroValue773
 g1:=by kernel_rfl}
def Tryz.lays138_ren:Go.Shelf.Ren:=⟨fun|138=>360|195=>463|218=>465|143=>361|219=>466|217=>548|225=>549|224=>550|267=>551|266=>597|314=>598|n=>n,fun|9=>9|3=>3|4=>4|5=>5|0=>0|46=>417|146=>773|51=>86|n=>n,fun|1=>1|n=>n⟩
theorem Tryz.lays138:Go.Proofs.Lays.n138 Tryz.prog Tryz.lays138_ren:={
 mixed:=by kernel_rfl
 f138:=Tryz.func360.trans (congrArg some (by kernel_rfl))
 f143:=Tryz.func361.trans (congrArg some (by kernel_rfl))
 f195:=Tryz.func463.trans (congrArg some (by kernel_rfl))
 f217:=Tryz.func548.trans (congrArg some (by kernel_rfl))
 f218:=Tryz.func465.trans (congrArg some (by kernel_rfl))
 f219:=Tryz.func466.trans (congrArg some (by kernel_rfl))
 f224:=Tryz.func550.trans (congrArg some (by kernel_rfl))
 f225:=Tryz.func549.trans (congrArg some (by kernel_rfl))
 f266:=Tryz.func597.trans (congrArg some (by kernel_rfl))
 f267:=Tryz.func551.trans (congrArg some (by kernel_rfl))
 f314:=Tryz.func598.trans (congrArg some (by kernel_rfl))
 t0:=Tryz.underlying0
 a0:=Tryz.isAgg0
 z0:=Tryz.sizeOf0
 v0:=Tryz.zeroValue0
 t3:=Tryz.underlying3
 a3:=Tryz.isAgg3
 z3:=Tryz.sizeOf3
 v3:=Tryz.zeroValue3
 t4:=Tryz.underlying4
 a4:=Tryz.isAgg4
 z4:=Tryz.sizeOf4
 v4:=Tryz.zeroValue4
 t5:=Tryz.underlying5
 a5:=Tryz.isAgg5
 z5:=Tryz.sizeOf5
 v5:=Tryz.zeroValue5
 t9:=Tryz.underlying9
 a9:=Tryz.isAgg9
 z9:=Tryz.sizeOf9
 v9:=Tryz.zeroValue9
 t46:=Tryz.underlying417
 a46:=Tryz.isAgg417
 z46:=Tryz.sizeOf417
 v46:=Tryz.zeroValue417
 t51:=Tryz.underlying86
 a51:=Tryz.isAgg86
 z51:=Tryz.sizeOf86
 v51:=Tryz.zeroValue86
 t146:=Tryz.underlying773
 a146:=Tryz.isAgg773
 z146:=Tryz.sizeOf773
 v146:=Tryz.zeroValue773
 g1:=by kernel_rfl}
def Tryz.lays221_ren:Go.Shelf.Ren:=⟨fun|221=>265|268=>359|138=>360|143=>361|195=>463|197=>464|218=>465|219=>466|260=>547|217=>548|225=>549|224=>550|267=>551|266=>597|314=>598|n=>n,fun|9=>9|3=>3|31=>288|4=>4|0=>0|105=>632|21=>21|5=>5|46=>417|119=>769|139=>772|138=>771|146=>773|51=>86|n=>n,fun|1=>1|3=>2|4=>3|n=>n⟩
theorem Tryz.lays221:Go.Proofs.Lays.n221 Tryz.prog Tryz.lays221_ren:={
 mixed:=by kernel_rfl
 f138:=Tryz.func360.trans (congrArg some (by kernel_rfl))
 f143:=Tryz.func361.trans (congrArg some (by kernel_rfl))
 f195:=Tryz.func463.trans (congrArg some (by kernel_rfl))
 f197:=Tryz.func464.trans (congrArg some (by kernel_rfl))
 f217:=Tryz.func548.trans (congrArg some (by kernel_rfl))
 f218:=Tryz.func465.trans (congrArg some (by kernel_rfl))
 f219:=Tryz.func466.trans (congrArg some (by kernel_rfl))
 f221:=Tryz.func265.trans (congrArg some (by kernel_rfl))
 f224:=Tryz.func550.trans (congrArg some (by kernel_rfl))
 f225:=Tryz.func549.trans (congrArg some (by kernel_rfl))
 f260:=Tryz.func547.trans (congrArg some (by kernel_rfl))
 f266:=Tryz.func597.trans (congrArg some (by kernel_rfl))
 f267:=Tryz.func551.trans (congrArg some (by kernel_rfl))
 f268:=Tryz.func359.trans (congrArg some (by kernel_rfl))
 f314:=Tryz.func598.trans (congrArg some (by kernel_rfl))
 t0:=Tryz.underlying0
 a0:=Tryz.isAgg0
 z0:=Tryz.sizeOf0
 v0:=Tryz.zeroValue0
 t3:=Tryz.underlying3
 a3:=Tryz.isAgg3
 z3:=Tryz.sizeOf3
 v3:=Tryz.zeroValue3
 t4:=Tryz.underlying4
 a4:=Tryz.isAgg4
 z4:=Tryz.sizeOf4
 v4:=Tryz.zeroValue4
 t5:=Tryz.underlying5
 a5:=Tryz.isAgg5
 z5:=Tryz.sizeOf5
 v5:=Tryz.zeroValue5
 t9:=Tryz.underlying9
 a9:=Tryz.isAgg9
 z9:=Tryz.sizeOf9
 v9:=Tryz.zeroValue9
 t21:=Tryz.underlying21
 a21:=Tryz.isAgg21
 z21:=Tryz.sizeOf21
 v21:=Tryz.zeroValue21
 t31:=Tryz.underlying288
 a31:=Tryz.isAgg288
 z31:=Tryz.sizeOf288
 v31:=Tryz.zeroValue288
 t46:=Tryz.underlying417
 a46:=Tryz.isAgg417
 z46:=Tryz.sizeOf417
 v46:=Tryz.zeroValue417
 t51:=Tryz.underlying86
 a51:=Tryz.isAgg86
 z51:=Tryz.sizeOf86
 v51:=Tryz.zeroValue86
 t105:=Tryz.underlying632
 a105:=Tryz.isAgg632
 z105:=Tryz.sizeOf632
 v105:=Tryz.zeroValue632
 t119:=Tryz.underlying769
 a119:=Tryz.isAgg769
 z119:=Tryz.sizeOf769
 t138:=Tryz.underlying771
 a138:=Tryz.isAgg771
 z138:=Tryz.sizeOf771
 v138:=Tryz.zeroValue771
 t139:=Tryz.underlying772
 a139:=Tryz.isAgg772
 z139:=Tryz.sizeOf772
 v139:=Tryz.zeroValue772
 t146:=Tryz.underlying773
 a146:=Tryz.isAgg773
 z146:=Tryz.sizeOf773
 v146:=Tryz.zeroValue773
 g1:=by kernel_rfl
 g3:=by kernel_rfl
 g4:=by kernel_rfl}
def Tryz.keysA_ren:Go.Shelf.Ren:=⟨fun|7=>107|10=>189|n=>n,fun|23=>122|26=>2|3=>128|28=>213|0=>0|27=>212|33=>160|4=>4|n=>n,fun|n=>n⟩
theorem Tryz.keysA:Go.Proofs.SlLaysZI.n7 Tryz.prog Tryz.keysA_ren:={
 mixed:=by kernel_rfl
 f7:=⟨Tryz.f107.name,by decide,Tryz.func107.trans (congrArg some (by kernel_rfl))⟩
 f10:=⟨Tryz.f189.name,by decide,Tryz.func189.trans (congrArg some (by kernel_rfl))⟩
 t0:=Tryz.underlying0
 a0:=Tryz.isAgg0
 z0:=Tryz.sizeOf0
 v0:=Tryz.zeroValue0
 t4:=Tryz.underlying4
 a4:=Tryz.isAgg4
 z4:=Tryz.sizeOf4
 v4:=Tryz.zeroValue4
 t23:=Tryz.underlying122
 a23:=Tryz.isAgg122
 z23:=Tryz.sizeOf122
 v23:=Tryz.zeroValue122
 t26:=Tryz.underlying2
 a26:=Tryz.isAgg2
 z26:=Tryz.sizeOf2
 v26:=Tryz.zeroValue2
 t27:=Tryz.underlying212
 a27:=Tryz.isAgg212
 z27:=Tryz.sizeOf212
 v27:=Tryz.zeroValue212
 t28:=Tryz.underlying213
 a28:=Tryz.isAgg213
 z28:=Tryz.sizeOf213
 v28:=Tryz.zeroValue213
 t33:=Tryz.underlying160
 a33:=Tryz.isAgg160
 z33:=Tryz.sizeOf160
 v33:=Tryz.zeroValue160}
def Tryz.sortedA_ren:Go.Shelf.Ren:=⟨fun|6=>106|8=>187|9=>188|11=>269|13=>271|12=>270|23=>372|24=>373|14=>363|15=>364|16=>365|17=>366|18=>367|19=>368|20=>369|21=>370|22=>371|25=>467|26=>468|27=>469|28=>470|29=>471|30=>472|31=>552|n=>n,fun|26=>2|28=>213|24=>66|0=>0|3=>3|37=>417|48=>86|50=>515|4=>4|40=>508|39=>507|45=>296|5=>5|9=>9|51=>635|55=>639|57=>735|58=>736|33=>160|n=>n,fun|n=>n⟩
theorem Tryz.sortedA:Go.Proofs.SlLaysZI.n6 Tryz.prog Tryz.sortedA_ren:={
 mixed:=by kernel_rfl
 f6:=⟨Tryz.f106.name,by decide,Tryz.func106.trans (congrArg some (by kernel_rfl))⟩
 f8:=⟨Tryz.f187.name,by decide,Tryz.func187.trans (congrArg some (by kernel_rfl))⟩
 f11:=⟨Tryz.f269.name,by decide,Tryz.func269.trans (congrArg some (by kernel_rfl))⟩
 t0:=Tryz.underlying0
 a0:=Tryz.isAgg0
 z0:=Tryz.sizeOf0
 v0:=Tryz.zeroValue0
 t24:=Tryz.underlying66
 a24:=Tryz.isAgg66
 z24:=Tryz.sizeOf66
 v24:=Tryz.zeroValue66
 t26:=Tryz.underlying2
 a26:=Tryz.isAgg2
 z26:=Tryz.sizeOf2
 v26:=Tryz.zeroValue2
 t28:=Tryz.underlying213
 a28:=Tryz.isAgg213
 z28:=Tryz.sizeOf213
 v28:=Tryz.zeroValue213
 i26:=by kernel_rfl}
def Tryz.sortA_ren:Go.Shelf.Ren:=⟨fun|5=>188|8=>271|7=>270|19=>372|20=>373|10=>363|11=>364|12=>365|13=>366|14=>367|15=>368|16=>369|17=>370|18=>371|30=>467|31=>468|32=>469|33=>470|34=>471|35=>472|40=>552|n=>n,fun|23=>66|25=>2|3=>3|32=>417|22=>66|0=>0|44=>86|46=>515|4=>4|36=>508|35=>507|41=>296|5=>5|9=>9|53=>635|57=>639|63=>735|64=>736|n=>n,fun|n=>n⟩
theorem Tryz.sortA:Go.Proofs.SlLaysM.n5 Tryz.prog Tryz.sortA_ren:={
 mixed:=by kernel_rfl
 f5:=⟨Tryz.f188.name,by decide,Tryz.func188.trans (congrArg some (by kernel_rfl))⟩
 f7:=⟨Tryz.f270.name,by decide,Tryz.func270.trans (congrArg some (by kernel_rfl))⟩
 f8:=Tryz.func271.trans (congrArg some (by kernel_rfl))
 f10:=⟨Tryz.f363.name,by decide,Tryz.func363.trans (congrArg some (by kernel_rfl))⟩
 f11:=⟨Tryz.f364.name,by decide,Tryz.func364.trans (congrArg some (by kernel_rfl))⟩
 f12:=⟨Tryz.f365.name,by decide,Tryz.func365.trans (congrArg some (by kernel_rfl))⟩
 f13:=⟨Tryz.f366.name,by decide,Tryz.func366.trans (congrArg some (by kernel_rfl))⟩
 f14:=⟨Tryz.f367.name,by decide,Tryz.func367.trans (congrArg some (by kernel_rfl))⟩
 f15:=⟨Tryz.f368.name,by decide,Tryz.func368.trans (congrArg some (by kernel_rfl))⟩
 f16:=⟨Tryz.f369.name,by decide,Tryz.func369.trans (congrArg some (by kernel_rfl))⟩
 f17:=⟨Tryz.f370.name,by decide,Tryz.func370.trans (congrArg some (by kernel_rfl))⟩
 f18:=⟨Tryz.f371.name,by decide,Tryz.func371.trans (congrArg some (by kernel_rfl))⟩
 f19:=Tryz.func372.trans (congrArg some (by kernel_rfl))
 f20:=Tryz.func373.trans (congrArg some (by kernel_rfl))
 f30:=⟨Tryz.f467.name,by decide,Tryz.func467.trans (congrArg some (by kernel_rfl))⟩
 f31:=Tryz.func468.trans (congrArg some (by kernel_rfl))
 f32:=Tryz.func469.trans (congrArg some (by kernel_rfl))
 f33:=⟨Tryz.f470.name,by decide,Tryz.func470.trans (congrArg some (by kernel_rfl))⟩
 f34:=⟨Tryz.f471.name,by decide,Tryz.func471.trans (congrArg some (by kernel_rfl))⟩
 f35:=⟨Tryz.f472.name,by decide,Tryz.func472.trans (congrArg some (by kernel_rfl))⟩
 f40:=⟨Tryz.f552.name,by decide,Tryz.func552.trans (congrArg some (by kernel_rfl))⟩
 t0:=Tryz.underlying0
 a0:=Tryz.isAgg0
 z0:=Tryz.sizeOf0
 v0:=Tryz.zeroValue0
 t3:=Tryz.underlying3
 a3:=Tryz.isAgg3
 z3:=Tryz.sizeOf3
 v3:=Tryz.zeroValue3
 t4:=Tryz.underlying4
 a4:=Tryz.isAgg4
 z4:=Tryz.sizeOf4
 v4:=Tryz.zeroValue4
 t5:=Tryz.underlying5
 a5:=Tryz.isAgg5
 z5:=Tryz.sizeOf5
 v5:=Tryz.zeroValue5
 t9:=Tryz.underlying9
 a9:=Tryz.isAgg9
 z9:=Tryz.sizeOf9
 v9:=Tryz.zeroValue9
 t22:=Tryz.underlying66
 a22:=Tryz.isAgg66
 z22:=Tryz.sizeOf66
 v22:=Tryz.zeroValue66
 t23:=Tryz.underlying66
 a23:=Tryz.isAgg66
 z23:=Tryz.sizeOf66
 v23:=Tryz.zeroValue66
 t25:=Tryz.underlying2
 a25:=Tryz.isAgg2
 z25:=Tryz.sizeOf2
 v25:=Tryz.zeroValue2
 t32:=Tryz.underlying417
 a32:=Tryz.isAgg417
 z32:=Tryz.sizeOf417
 v32:=Tryz.zeroValue417
 t35:=Tryz.underlying507
 a35:=Tryz.isAgg507
 z35:=Tryz.sizeOf507
 v35:=Tryz.zeroValue507
 t36:=Tryz.underlying508
 a36:=Tryz.isAgg508
 z36:=Tryz.sizeOf508
 v36:=Tryz.zeroValue508
 t41:=Tryz.underlying296
 a41:=Tryz.isAgg296
 z41:=Tryz.sizeOf296
 v41:=Tryz.zeroValue296
 t44:=Tryz.underlying86
 a44:=Tryz.isAgg86
 z44:=Tryz.sizeOf86
 v44:=Tryz.zeroValue86
 t46:=Tryz.underlying515
 a46:=Tryz.isAgg515
 z46:=Tryz.sizeOf515
 v46:=Tryz.zeroValue515
 t53:=Tryz.underlying635
 a53:=Tryz.isAgg635
 z53:=Tryz.sizeOf635
 v53:=Tryz.zeroValue635
 t57:=Tryz.underlying639
 a57:=Tryz.isAgg639
 z57:=Tryz.sizeOf639
 v57:=Tryz.zeroValue639
 t63:=Tryz.underlying735
 a63:=Tryz.isAgg735
 z63:=Tryz.sizeOf735
 v63:=Tryz.zeroValue735
 t64:=Tryz.underlying736
 a64:=Tryz.isAgg736
 z64:=Tryz.sizeOf736
 v64:=Tryz.zeroValue736}
end Go.Proofs
