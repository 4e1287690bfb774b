/- Walks and plain laws: T9Da, DragSpec4, T9FitD. -/
import Derived.Test.YtneenfjffejnoaaGreatJoin56
import Derived.Test.YtneenfjffejnoaaGreatJoin76
import Derived.Test.YtneenfjffejnoaaGreatAgreeOne
import Derived.Test.YtneenfjffejnoaaGreatJoin17
import Derived.Test.YtneenfjffejnoaaGreatT9W
import Derived.Test.YtneenfjffejnoaaGreatAEthree
import Derived.Test.YtneenfjffejnoaaGreatRows
import Derived.KernelRfl
set_option linter.unusedVariables false
set_option linter.unusedSimpArgs false
set_option linter.unusedSectionVars false

/- Walk of TopDragAgrees. -/
namespace AE.Tryz
open Go AE Go.Proofs AE.Drag
set_option maxRecDepth 100000
set_option linter.unusedVariables false

theorem N9 {t:T}{S:Lines}(F:Jp t S) {i:Nat}(hi:i<S.k) (b:Option Addr) (a:Addr) (c:Nat):Jp t ⟨1,fun _=>S.ln i,b,a,c⟩:=
 ⟨F.tk,⟨by show 1<=1;omega,by show 1<=4;omega,fun _ _=>F.sv.v i hi⟩,fun _ _=>F.r i hi⟩
noncomputable def I8 (t:T) (S:Lines) (i:Nat):Int:=IU t ⟨1,fun _=>S.ln i,none,⟨0,0,none⟩,0⟩
noncomputable def I9 (t:T) (S:Lines) (i:Nat):Int:=IV t ⟨1,fun _=>S.ln i,none,⟨0,0,none⟩,0⟩
theorem mG {t:T}{S:Lines}(F:Jp t S) {i:Nat}(hi:i<S.k):IU t S<=I8 t S i/\I9 t S i<=IV t S:=by
 have F':=N9 F hi none ⟨0,0,none⟩ 0
 obtain⟨⟨_,_,m,h1,h2,e⟩, -⟩:=MF F'
 obtain⟨⟨_,_,m',h1',h2',e'⟩, -⟩:=KR F'
 have a:=(MF F).2 _ ⟨i,hi,m,h1,h2,rfl⟩
 have b:=(KR F).2 _ ⟨i,hi,m',h1',h2',rfl⟩
 have e1:I8 t S i=EB t (S.ln i) (Ey t m):=e
 have e2:I9 t S i=EB t (S.ln i) (CZ t m'):=e'
 omega
theorem w8 {S:Lines}{m i:Nat}{h:H}(hS:S.Ok m h) (hi:i<S.k):(⟨1,fun _=>S.ln i,some (BI S.a (i*2)),BI S.a (i*2),S.c - i⟩:Lines).Ok m h:=by
 refine⟨fun _=>rfl,fun j hj=>?_,fun _=>hS.r Al,fun _ _=>hS.ok i hi,by show 1<=_;omega⟩
 have hj:j<1:=hj
 have:j=0:=by omega
 subst this
 have:=hS.i i hi
 show h.Bu (BI (BI S.a (i*2)) (0*2)) 2=some (S.ln i).cells
 rw[show BI (BI S.a (i*2)) (0*2)=BI S.a (i*2) by simp[BI]]
 exact this
theorem iy {h:H}{t:T}{S:Lines}{i m:Nat}(F:Jp t S) (hi:i<S.k) (hm:m<=h.next) (hS:S.Ok m h):AW Tryz.prog 23 h.next h [.agg ⟨t.cells⟩,.slice (some (BI S.a (i*2))) (i+1 - i) (S.c - i)] (fun w _=>w= .tuple #[.agg ⟨[.int .i64 (I8 t S i),.int .i64 (I9 t S i)]⟩,.int .i64 0]):=by
 have F':=N9 F hi (some (BI S.a (i*2))) (BI S.a (i*2)) (S.c - i)
 have:=Z8 (t:=t) hm .mk (w8 hS hi)
 unfold dO at this
 rw[KC.2 F']at this
 rw[show i+1 - i=1 by omega]
 exact this
theorem sS {h:H}{S:Lines}{i o k:Nat}{l:List Value}(e:JP h S.a S.k 2 (fun i=>(S.ln i).cells)) (hi:i<S.k) (hc:cut (S.ln i).cells o k=some l):h.Bu (BI (BI S.a (i*2)) o) k=some l:=IB (e i hi) hc
theorem Fz {G G':Prop}(g:G') (t:G'->G:=by(((with_reducible apply Ei.mk);(focus((repeat(first|(apply sS<;>first|assumption|omega|exact rfl)|with_reducible apply Jl|((with_reducible apply KG);focus(dsimp only[BI];omega))|((with_reducible apply Hq);(focus assumption);focus(dsimp only[BI];omega))|((with_reducible apply IY);(focus assumption);focus(dsimp only[BI];omega))));(first|done|fail)));(focus exact Nj)))):G:=t g

noncomputable def SI (t:T) (S:Lines):Nat->Int
 |0=> -1000000
 |s+1=>max (SI t S s) (I8 t S s)
noncomputable def S5 (t:T) (S:Lines):Nat->Int
 |0=>1000000
 |s+1=>min (S5 t S s) (I9 t S s)
noncomputable def Z0 (t:T) (S:Lines) (i:Nat):List Value:=[.int .i64 i,.int .i64 0,.int .i64 (I8 t S i),.int .i64 (I9 t S i)]
theorem to_iff (t:T) (S:Lines) (n:Int):∀s,(SI t S s<=n/\n<=S5 t S s)↔(-1000000<=n/\n<=1000000)/\∀j,j<s->I8 t S j<=n/\n<=I9 t S j
 |0=>by unfold SI S5;exact⟨fun h=>⟨h,fun j hj=>by omega⟩,fun h=>h.1⟩
 | s+1=>by
   unfold SI S5
   have ih:=to_iff t S n s
   constructor
   ·intro h
    obtain⟨h1,h2⟩:=ih.1 Al
    refine⟨h1,fun j hj=>?_⟩
    by_cases e:j=s
    ·subst e;omega
    ·exact h2 j Al
   ·rintro⟨h1,h2⟩
    have:=ih.2 ⟨h1,fun j hj=>h2 j Al⟩
    have:=h2 s Al
    omega
theorem ZS {ts:Ts}{o:Oper}{x y:Operand}{c:TypeId}(ho:o.op= .binOp .eql 23 x y c) {a b:Int}(hx:Ud ts x= .agg ⟨[.int .i64 a,.int .i64 b]⟩) (hy:Ud ts y= .agg ⟨[.int .i64 a,.int .i64 b]⟩):
 Ib Tryz.prog ts o=some (.bool true):=by
 have:=DU ho hx hy rfl rfl (by kernel_rfl)
  (uo (u:=2) (f0:=(Tryz.prog.fieldsOf 23)[0]!) (f1:=(Tryz.prog.fieldsOf 23)[1]!) (by kernel_rfl) (of_decide_eq_true (by kernel_rfl)) (of_decide_eq_true (by kernel_rfl)) (by kernel_rfl) (by kernel_rfl) Tryz.underlying2 9998 a b a b (by kernel_rfl) (fun _ _=>by kernel_rfl) (fun _ _=>by kernel_rfl))
 simpa using this
set_option maxHeartbeats 4000000 in
theorem W3 {h:H}{t:T}{S:Lines}{m:Nat}(hm:m<=h.next) (hS:S.Ok m h) (hfl:S.Flat):AW Tryz.prog 4 h.next h [.agg ⟨t.cells⟩,.slice S.b S.k S.c] (fun v _=>v= .bool true):=by
 have kn:Known t:=.mk
 have hS0:=hS
 obtain⟨e1,i1,r1,ok,l1⟩:=hS
 refine Ann.call rfl (Nat.le_refl _) ?_
 unfold a4
 by_cases hok:Gi t=0
 rotate_left
 ·(focus((try with_reducible apply wpC.to);(repeat'((conv=>whnf);first|refine Ak ?_|(apply Fork.mk<;>(intro _;try(exfalso;omega)))|((apply Ar);(focus exact Ao);(focus exact AQ);(focus(first|exact HQ|exact Bz|exact Bp|exact Bn|exact Bo|exact Bj|exact DJ|exact Bh|exact Be|exact DK));first|((apply Ad)<;>(intro AV _ _ _;first|exact Bool.noConfusion AV|replace AV:=of_decide_eq_true AV|replace AV:=of_decide_eq_false AV|skip)<;>((try simp only[AllOk,Bd.ok,and_true]at AV);first|contradiction|(revert AV;intros)))|((apply Ac)<;>intro _ _ _ _<;>try contradiction)|(apply Ab;intro _ _ _))|refine Fz ?_|fail));all_goals((conv=>whnf);try with_reducible apply At.mk)))
  all_goals((refine Au ?_);rfl)
 have tk:=KA.1 hok
 by_cases hk:S.k<1\/4<S.k
 ·(focus((try with_reducible apply wpC.to);(repeat'((conv=>whnf);first|refine Ak ?_|(apply Fork.mk<;>(intro _;try(exfalso;omega)))|((apply Ar);(focus exact Ao);(focus exact AQ);(focus(first|exact HQ|exact Bz|exact Bp|exact Bn|exact Bo|exact Bj|exact DJ|exact Bh|exact Be|exact DK));first|((apply Ad)<;>(intro AV _ _ _;first|exact Bool.noConfusion AV|replace AV:=of_decide_eq_true AV|replace AV:=of_decide_eq_false AV|skip)<;>((try simp only[AllOk,Bd.ok,and_true]at AV);first|contradiction|(revert AV;intros)))|((apply Ac)<;>intro _ _ _ _<;>try contradiction)|(apply Ab;intro _ _ _))|refine Fz ?_|fail));all_goals((conv=>whnf);try with_reducible apply At.mk)))
  all_goals((refine Au ?_);rfl)
 (focus((try with_reducible apply wpC.to);(repeat'((conv=>whnf);first|refine Ak ?_|(apply Fork.mk<;>(intro _;try(exfalso;omega)))|((apply Ar);(focus exact Ao);(focus exact AQ);(focus(first|exact HQ|exact Bz|exact Bp|exact Bn|exact Bo|exact Bj|exact DJ|exact Bh|exact Be|exact DK));first|((apply Ad)<;>(intro AV _ _ _;first|exact Bool.noConfusion AV|replace AV:=of_decide_eq_true AV|replace AV:=of_decide_eq_false AV|skip)<;>((try simp only[AllOk,Bd.ok,and_true]at AV);first|contradiction|(revert AV;intros)))|((apply Ac)<;>intro _ _ _ _<;>try contradiction)|(apply Ab;intro _ _ _))|refine Fz ?_|fail));all_goals((conv=>whnf);try with_reducible apply At.mk)))
 rename_i h1 q1 hn1 _ hk1 hk2
 have s1:Same h.next h h1:=fun x hx=>(q1.same x Ah).trans Ep
 have g1:h1.get h.next=some (.cells t.cells 67):=(q1.same _ Ah).trans (by unfold T.cells;(exact Aa))
 have hn1':h.next+2<=h1.next:=by(exact Ah)
 clear q1 hn1
 unfold T.cells at g1
 refine wp_loop (fun s:Nat=>[(1,.slice S.b S.k S.c),(2,.pointer (some ⟨h.next,0,none⟩)),(5,.pointer (some ⟨h1.next+3,0,none⟩)),(6,.int .i64 s)])
  (fun s h2=>Same h.next h h2/\h2.get h.next=some (.cells t.cells 67)/\h2.get (h1.next+3)=some (.cells [.int .i64 S.k,.int .i64 1,.int .i64 0,.int .i64 0,.slice none 0 0] 31)/\h1.next+6<=h2.next/\s<=S.k/\∀j,j<s->Eg (S.ln j)=0) (fun s=>S.k - s) 0
  ⟨rfl,rfl,rfl,rfl,trivial⟩ ⟨Aq,by unfold T.cells;(exact Aa),Aa,Ah,by omega,fun j hj=>by omega⟩ ?_
 clear g1 s1
 rintro s g h2 ⟨s2,g2,g2',hn2,hs,hv⟩ K hK
 by_cases hsk:s<S.k
 ·have hL:=ok s hsk
  have l1':=hL.l1
  have l2':=hL.l2
  by_cases hle:Eg (S.ln s)=0
  ·have vv:=HI.1 hle
   have v1:=vv.hi
   have v2:=vv.eq
   (focus((try with_reducible apply wpC.to);(repeat'((conv=>whnf);first|refine Ak ?_|(apply Fork.mk<;>(intro _;try(exfalso;omega)))|((apply Ar);(focus exact Ao);(focus exact AQ);(focus(first|exact HQ|exact Bz|exact Bp|exact Bn|exact Bo|exact Bj|exact DJ|exact Bh|exact Be|exact DK));first|((apply Ad)<;>(intro AV _ _ _;first|exact Bool.noConfusion AV|replace AV:=of_decide_eq_true AV|replace AV:=of_decide_eq_false AV|skip)<;>((try simp only[AllOk,Bd.ok,and_true]at AV);first|contradiction|(revert AV;intros)))|((apply Ac)<;>intro _ _ _ _<;>try contradiction)|(apply Ab;intro _ _ _))|refine Fz ?_|fail));all_goals((conv=>whnf);try with_reducible apply At.mk)))
   exact hK (s+1) _ _ ⟨rfl,rfl,rfl,AK rfl Al,trivial⟩ ⟨Aq,Aa,Aa,Ah,by omega,fun j hj=>by
    by_cases e:j=s
    ·subst e;exact hle
    ·exact hv j Al⟩ Al
  ·(focus((try with_reducible apply wpC.to);(repeat'((conv=>whnf);first|refine Ak ?_|(apply Fork.mk<;>(intro _;try(exfalso;omega)))|((apply Ar);(focus exact Ao);(focus exact AQ);(focus(first|exact HQ|exact Bz|exact Bp|exact Bn|exact Bo|exact Bj|exact DJ|exact Bh|exact Be|exact DK));first|((apply Ad)<;>(intro AV _ _ _;first|exact Bool.noConfusion AV|replace AV:=of_decide_eq_true AV|replace AV:=of_decide_eq_false AV|skip)<;>((try simp only[AllOk,Bd.ok,and_true]at AV);first|contradiction|(revert AV;intros)))|((apply Ac)<;>intro _ _ _ _<;>try contradiction)|(apply Ab;intro _ _ _))|refine Fz ?_|fail));all_goals((conv=>whnf);try with_reducible apply At.mk)))
   all_goals((refine Au ?_);rfl)
 have es:s=S.k:=by omega
 subst es
 have sv:S.Valid:=⟨by omega,by omega,fun j hj=>HI.1 (hv j hj)⟩
 unfold T.cells at g2
 clear hK
 (focus((try with_reducible apply wpC.to);(repeat'((conv=>whnf);first|refine Ak ?_|(apply Fork.mk<;>(intro _;try(exfalso;omega)))|((apply Ar);(focus exact Ao);(focus exact AQ);(focus(first|exact HQ|exact Bz|exact Bp|exact Bn|exact Bo|exact Bj|exact DJ|exact Bh|exact Be|exact DK));first|((apply Ad)<;>(intro AV _ _ _;first|exact Bool.noConfusion AV|replace AV:=of_decide_eq_true AV|replace AV:=of_decide_eq_false AV|skip)<;>((try simp only[AllOk,Bd.ok,and_true]at AV);first|contradiction|(revert AV;intros)))|((apply Ac)<;>intro _ _ _ _<;>try contradiction)|(apply Ab;intro _ _ _))|refine Fz ?_|fail));all_goals((conv=>whnf);try with_reducible apply At.mk)))
 have hsp:dO t S= .tuple #[.agg ⟨[.int .i64 (if FM t S=0 then IU t S else 0),.int .i64 (if FM t S=0 then IV t S else 0)]⟩,.int .i64 (FM t S)]:=rfl
 by_cases fq:Jn t S
 rotate_left
 ·have he:FM t S=19:=by
   unfold FM
   rw[if_neg Al,if_neg (by rw[GK.2 sv];omega),if_neg fq]
  rw[he]at hsp
  apply Ar
  focus(exact Ao)
  focus(exact AQ)
  focus exact Z8 (t:=t) (m:=m) Ah kn (hS0.same Aq (Nat.le_refl _))
  intro v5 h5 hv5 q5 N4
  rw[hsp]at hv5
  subst hv5
  (focus((try with_reducible apply wpC.to);(repeat'((conv=>whnf);first|refine Ak ?_|(apply Fork.mk<;>(intro _;try(exfalso;omega)))|((apply Ar);(focus exact Ao);(focus exact AQ);(focus(first|exact HQ|exact Bz|exact Bp|exact Bn|exact Bo|exact Bj|exact DJ|exact Bh|exact Be|exact DK));first|((apply Ad)<;>(intro AV _ _ _;first|exact Bool.noConfusion AV|replace AV:=of_decide_eq_true AV|replace AV:=of_decide_eq_false AV|skip)<;>((try simp only[AllOk,Bd.ok,and_true]at AV);first|contradiction|(revert AV;intros)))|((apply Ac)<;>intro _ _ _ _<;>try contradiction)|(apply Ab;intro _ _ _))|refine Fz ?_|fail));all_goals((conv=>whnf);try with_reducible apply At.mk)))
  (refine Au ?_)
  rfl
 have F:Jp t S:=⟨tk,sv,fq⟩
 rw[KC.2 F]at hsp
 apply Ar
 focus(exact Ao)
 focus(exact AQ)
 focus exact Z8 (t:=t) (m:=m) Ah kn (hS0.same Aq (Nat.le_refl _))
 intro v5 h5 hv5 q5 N4
 rw[hsp]at hv5
 subst hv5
 simp only[if_true]
 have sb:=VS F
 have s5:Same h.next h h5:=fun x hx=>(q5.same x Ah).trans ((Aw fun y hy=>Aa).trans (s2 x hx))
 have g5:=(q5.same h.next Ah).trans ((Aw fun y hy=>by(exact Aa):_=h2.get h.next).trans g2)
 have g5':=(q5.same (h1.next+3) Ah).trans ((Aw fun y hy=>by(exact Aa):_=h2.get (h1.next+3)).trans g2')
 have Aem:h2.next+13<=h5.next:=by(exact Ah)
 clear q5 N4 g2 g2' s2
 (focus((try with_reducible apply wpC.to);(repeat'((conv=>whnf);first|refine Ak ?_|(apply Fork.mk<;>(intro _;try(exfalso;omega)))|((apply Ar);(focus exact Ao);(focus exact AQ);(focus(first|exact HQ|exact Bz|exact Bp|exact Bn|exact Bo|exact Bj|exact DJ|exact Bh|exact Be|exact DK));first|((apply Ad)<;>(intro AV _ _ _;first|exact Bool.noConfusion AV|replace AV:=of_decide_eq_true AV|replace AV:=of_decide_eq_false AV|skip)<;>((try simp only[AllOk,Bd.ok,and_true]at AV);first|contradiction|(revert AV;intros)))|((apply Ac)<;>intro _ _ _ _<;>try contradiction)|(apply Ab;intro _ _ _))|refine Fz ?_|fail));all_goals((conv=>whnf);try with_reducible apply At.mk)))
 refine wp_loop (fun x:Nat × Nat × Option Addr=>[(1,.slice S.b S.k S.c),(2,.pointer (some ⟨h.next,0,none⟩)),(5,.pointer (some ⟨h1.next+3,0,none⟩)),(7,.pointer (some ⟨h2.next+10,0,none⟩)),(9,.int .i64 (SI t S x.1)),(10,.int .i64 (S5 t S x.1)),(11,.int .i64 x.1)])
  (fun x h6=>Same h.next h h6/\h6.get h.next=some (.cells t.cells 67)/\h6.get (h2.next+10)=some (.cells [.int .i64 (IU t S),.int .i64 (IV t S)] 23)/\h6.get (h1.next+3)=some (.cells [.int .i64 S.k,.int .i64 1,.int .i64 0,.int .i64 0,.slice x.2.2 x.1 0] 31)/\GG x.2.1 h6 33 4 x.1 (rowsOf (Z0 t S) x.1) x.2.2/\(0<x.1->h2.next+11<=x.2.1/\x.2.1<h6.next)/\h5.next<=h6.next/\x.1<=S.k/\∀j,j<x.1-> -1000000<=I8 t S j/\I9 t S j<=1000000) (fun x=>S.k - x.1) (0,0,none)
  ⟨rfl,rfl,rfl,rfl,rfl,rfl,rfl,trivial⟩ ?_ ?_
 ·exact⟨Aq,by unfold T.cells;(exact Aa),Aa,Aa,.inl ⟨rfl,rfl,rfl⟩,fun h=>absurd h (by simp),Ah,by simp,fun j hj=>absurd hj (by simp)⟩
 clear g5 g5' s5
 rintro⟨s,r,w⟩ g6 h6 ⟨s6,g6t,g6a,g6b,G,hr,oa,hs6,hb6⟩ K6 hK6
 dsimp only at g6b G hr hs6 hb6
 dsimp only
 unfold T.cells at g6t
 by_cases yB:s<S.k
 ·have oi:=mG F yB
  have hob:I8 t S s<=I9 t S s:=by
   have F':=N9 F yB none ⟨0,0,none⟩ 0
   have:=VS F'
   unfold I8 I9
   omega
  (focus((try with_reducible apply wpC.to);(repeat'((conv=>whnf);first|refine Ak ?_|(apply Fork.mk<;>(intro _;try(exfalso;omega)))|((apply Ar);(focus exact Ao);(focus exact AQ);(focus(first|exact HQ|exact Bz|exact Bp|exact Bn|exact Bo|exact Bj|exact DJ|exact Bh|exact Be|exact DK));first|((apply Ad)<;>(intro AV _ _ _;first|exact Bool.noConfusion AV|replace AV:=of_decide_eq_true AV|replace AV:=of_decide_eq_false AV|skip)<;>((try simp only[AllOk,Bd.ok,and_true]at AV);first|contradiction|(revert AV;intros)))|((apply Ac)<;>intro _ _ _ _<;>try contradiction)|(apply Ab;intro _ _ _))|refine Fz ?_|fail));all_goals((conv=>whnf);try with_reducible apply At.mk)))
  apply xA (l:=s) (e:=s+1)
  case hx=>rw[<-e1 Al];exact rfl
  case hl=>exact rfl
  case hh=>exact rfl
  case hs=>exact hfl.s Al
  case h1=>omega
  case h2=>have:=hfl.c;omega
  case h3=>have:=hfl.c;omega
  case hf=>exact hfl.f Al
  (focus((try with_reducible apply wpC.to);(repeat'((conv=>whnf);first|refine Ak ?_|(apply Fork.mk<;>(intro _;try(exfalso;omega)))|((apply Ar);(focus exact Ao);(focus exact AQ);(focus(first|exact HQ|exact Bz|exact Bp|exact Bn|exact Bo|exact Bj|exact DJ|exact Bh|exact Be|exact DK));first|((apply Ad)<;>(intro AV _ _ _;first|exact Bool.noConfusion AV|replace AV:=of_decide_eq_true AV|replace AV:=of_decide_eq_false AV|skip)<;>((try simp only[AllOk,Bd.ok,and_true]at AV);first|contradiction|(revert AV;intros)))|((apply Ac)<;>intro _ _ _ _<;>try contradiction)|(apply Ab;intro _ _ _))|refine Fz ?_|fail));all_goals((conv=>whnf);try with_reducible apply At.mk)))
  apply Dw
  focus(exact Ao)
  focus(exact AQ)
  focus
   apply AW.arg1
   ·exact iy (m:=m) F yB Ah (hS0.same Aq (Nat.le_refl _))
   ·exact Is.rfl
  intro h7 q7 hn7
  by_cases hgood: -1000000<=I8 t S s/\I9 t S s<=1000000
  rotate_left
  ·(focus((try with_reducible apply wpC.to);(repeat'((conv=>whnf);first|refine Ak ?_|(apply Fork.mk<;>(intro _;try(exfalso;omega)))|((apply Ar);(focus exact Ao);(focus exact AQ);(focus(first|exact HQ|exact Bz|exact Bp|exact Bn|exact Bo|exact Bj|exact DJ|exact Bh|exact Be|exact DK));first|((apply Ad)<;>(intro AV _ _ _;first|exact Bool.noConfusion AV|replace AV:=of_decide_eq_true AV|replace AV:=of_decide_eq_false AV|skip)<;>((try simp only[AllOk,Bd.ok,and_true]at AV);first|contradiction|(revert AV;intros)))|((apply Ac)<;>intro _ _ _ _<;>try contradiction)|(apply Ab;intro _ _ _))|refine Fz ?_|fail));all_goals((conv=>whnf);try with_reducible apply At.mk)))
   all_goals((refine Au ?_);rfl)
  have Aon:h6.next<=h7.next:=by(exact Ah)
  have hfr:∀y,y<h6.next->h7.get y=h6.get y:=fun y hy=>(q7.same y Ah).trans (Aw fun z hz=>Aa)
  (focus((try with_reducible apply wpC.to);(repeat'((conv=>whnf);first|refine Ak ?_|(apply Fork.mk<;>(intro _;try(exfalso;omega)))|((apply Ar);(focus exact Ao);(focus exact AQ);(focus(first|exact HQ|exact Bz|exact Bp|exact Bn|exact Bo|exact Bj|exact DJ|exact Bh|exact Be|exact DK));first|((apply Ad)<;>(intro AV _ _ _;first|exact Bool.noConfusion AV|replace AV:=of_decide_eq_true AV|replace AV:=of_decide_eq_false AV|skip)<;>((try simp only[AllOk,Bd.ok,and_true]at AV);first|contradiction|(revert AV;intros)))|((apply Ac)<;>intro _ _ _ _<;>try contradiction)|(apply Ab;intro _ _ _))|refine Fz ?_|fail));all_goals((conv=>whnf);try with_reducible apply At.mk)))
  apply EP (r:=r) (n:=s) (m:=1) (cs:=rowsOf (Z0 t S) s) (nc:=Z0 t S s) (v:=w)
  case G=>exact G.frame fun h0=>(Aw fun y hy=>by have:=hr h0;(exact Aa)).trans (hfr r (hr h0).2)
  case hsv=>exact rfl
  case C=>exact Cells.one Ez (by unfold AE.far;omega) rfl rfl
  case hm=>omega
  case hlo=>(exact Ah)
  case hlr=>exact fun h0=>by have:=hr h0;exact⟨Ah,Ah⟩
  case hsm=>omega
  intro w' r' row ha hb hc G'
  have hr':h2.next+11<=r'/\r'<h7.next+48/\(0<s->r'=r)/\(s=0->h7.next+47<=r'):=by
   rcases Nat.eq_zero_or_pos s with h0|h0
   ·have:=ha h0;exact⟨Ah,Ah,fun h=>by omega,fun _=>Ah⟩
   ·have:=hb h0;have:=hr h0;exact⟨Ah,Ah,fun _=>by omega,fun h=>by omega⟩
  obtain⟨x1,x2,x3,x4⟩:=hr'
  have E1:rowsOf (Z0 t S) (s+1)=rowsOf (Z0 t S) s++Z0 t S s:=rfl
  (focus((try with_reducible apply wpC.to);(repeat'((conv=>whnf);first|refine Ak ?_|(apply Fork.mk<;>(intro _;try(exfalso;omega)))|((apply Ar);(focus exact Ao);(focus exact AQ);(focus(first|exact HQ|exact Bz|exact Bp|exact Bn|exact Bo|exact Bj|exact DJ|exact Bh|exact Be|exact DK));first|((apply Ad)<;>(intro AV _ _ _;first|exact Bool.noConfusion AV|replace AV:=of_decide_eq_true AV|replace AV:=of_decide_eq_false AV|skip)<;>((try simp only[AllOk,Bd.ok,and_true]at AV);first|contradiction|(revert AV;intros)))|((apply Ac)<;>intro _ _ _ _<;>try contradiction)|(apply Ab;intro _ _ _))|refine Fz ?_|fail));all_goals((conv=>whnf);try with_reducible apply At.mk)))
  refine hK6 (s+1,r',w') _ _ ⟨rfl,rfl,rfl,rfl,rfl,rfl,AK rfl (by dsimp only;omega),trivial⟩ ⟨Aq,by unfold T.cells;(exact Aa),Aa,Aa,?_,fun _=>⟨by dsimp only;omega,by dsimp only;(exact Ah)⟩,Ah,by dsimp only;omega,fun j hj=>?_⟩ (by dsimp only;omega)
  ·dsimp only
   rw[E1]
   exact G'.frame fun _=>Aw fun y hy=>by(exact Aa)
  ·dsimp only at hj
   by_cases e:j=s
   ·subst e;exact hgood
   ·exact hb6 j Al
 have es:s=S.k:=by omega
 subst es
 clear hK6
 obtain⟨a,ha,hels,hab⟩:=G.els (f:=Z0 t S) fun _=>rfl
 obtain rfl:=ha Al
 have hab:=hab Al
 have hr:=hr Al
 obtain⟨Z,hZ⟩:∃Z:Agr.Tab,Z=⟨S.k,1,0,0,S.k,fun i=>⟨i,0,I8 t S i,I9 t S i⟩,some a,a,0⟩:=⟨_,rfl⟩
 have zv:Z.Valid:=by
  rw[hZ]
  refine⟨by dsimp only;omega,by dsimp only;omega,by dsimp only;omega,by dsimp only;omega,by dsimp only;omega,by unfold Agr.TR;dsimp only;omega,fun i hi=>?_⟩
  dsimp only at hi⊢
  have:=hb6 i hi
  have:=mG F hi
  have h3:I8 t S i<=I9 t S i:=by
   have:=VS (N9 F hi none ⟨0,0,none⟩ 0)
   unfold I8 I9
   omega
  unfold Agr.TR
  omega
 have kL:Z.Ok h6.next h6:=by
  rw[hZ]
  exact⟨fun _=>rfl,hels,fun _=>by dsimp only;omega,by dsimp only;omega⟩
 have zone:AgreeS.One Z.toTable:=⟨zv.ok,by rw[hZ];rfl,by rw[hZ];rfl,by rw[hZ];rfl⟩
 have hmem:∀y,y∈Z.toTable.tests↔∃i,i<S.k/\(⟨i,0,I8 t S i,I9 t S i⟩:AgreeS.Test)=y:=fun y=>by
  rw[hZ]
  simp[Agr.Tab.toTable,Agr.F1.toTest]
 have hall:∀n:Int,(∀y∈Z.toTable.tests,y.lo<=n/\n<=y.hi)↔SI t S S.k<=n/\n<=S5 t S S.k:=fun n=>by
  rw[to_iff]
  constructor
  ·intro h
   have h':∀j,j<S.k->I8 t S j<=n/\n<=I9 t S j:=fun j hj=>h _ ((hmem _).2 ⟨j,hj,rfl⟩)
   have:=h' 0 Al
   have:=hb6 0 Al
   exact⟨by omega,h'⟩
  ·rintro⟨-,h⟩ y hy
   obtain⟨i,hi,rfl⟩:=(hmem y).1 hy
   exact h i hi
 have ju:AgreeS.DR Z.toTable 0:=zone.tested ((hmem _).2 ⟨0,by omega,rfl⟩)
 have zc:Z.cells=[.int .i64 S.k,.int .i64 1,.int .i64 0,.int .i64 0,.slice (some a) S.k 0]:=by rw[hZ];rfl
 have zh:Z.hulls=1:=by rw[hZ]
 have hls:SI t S S.k<=S5 t S S.k->Agr.sErr Z.toTable 0=0/\Agr.TX Z.toTable 0=SI t S S.k/\Agr.UD Z.toTable 0=S5 t S S.k:=fun hle=>by
  obtain⟨h1,h2,h3⟩:=zone.is hle ju hall
  have he:Agr.sErr Z.toTable 0=0:=Agr.KD.2 ⟨h1,ju⟩
  exact⟨he,(if_pos he).trans h2,(if_pos he).trans h3⟩
 have hno:¬SI t S S.k<=S5 t S S.k->Agr.sErr Z.toTable 0=20:=fun hle=>by
  have h1:=zone.not fun n hn=>by have:=(hall n).1 hn;omega
  unfold Agr.sErr
  rw[if_neg h1]
 have s6':Same h6.next h6 h6:=fun _ _=>rfl
 (focus((try with_reducible apply wpC.to);(repeat'((conv=>whnf);first|refine Ak ?_|(apply Fork.mk<;>(intro _;try(exfalso;omega)))|((apply Ar);(focus exact Ao);(focus exact AQ);(focus(first|exact HQ|exact Bz|exact Bp|exact Bn|exact Bo|exact Bj|exact DJ|exact Bh|exact Be|exact DK));first|((apply Ad)<;>(intro AV _ _ _;first|exact Bool.noConfusion AV|replace AV:=of_decide_eq_true AV|replace AV:=of_decide_eq_false AV|skip)<;>((try simp only[AllOk,Bd.ok,and_true]at AV);first|contradiction|(revert AV;intros)))|((apply Ac)<;>intro _ _ _ _<;>try contradiction)|(apply Ab;intro _ _ _))|refine Fz ?_|fail));all_goals((conv=>whnf);try with_reducible apply At.mk)))
 apply Ar
 focus(exact Ao)
 focus(exact AQ)
 focus exact(show AW Tryz.prog 19 _ _ [.agg ⟨[.int .i64 S.k,.int .i64 1,.int .i64 0,.int .i64 0,.slice (some a) S.k 0]⟩,.int .i64 0] _ by
        have:=Agr.Oa (T:=Z) (m:=h6.next) (z:=0) (h:=(h6.bump 4).bump 8) Ah (kL.same Aq (Nat.le_refl _)) zv (by rw[zh];omega)
        rw[zc]at this
        exact this)
 intro v8 h8 hv8 q8 hn8
 rw[show(0:Int).toNat=0 from rfl]at hv8
 by_cases hle:SI t S S.k<=S5 t S S.k
 ·obtain⟨f1,f2,f3⟩:=hls hle
  rw[f1,f2,f3]at hv8
  subst hv8
  (focus((try with_reducible apply wpC.to);(repeat'((conv=>whnf);first|refine Ak ?_|(apply Fork.mk<;>(intro _;try(exfalso;omega)))|((apply Ar);(focus exact Ao);(focus exact AQ);(focus(first|exact HQ|exact Bz|exact Bp|exact Bn|exact Bo|exact Bj|exact DJ|exact Bh|exact Be|exact DK));first|((apply Ad)<;>(intro AV _ _ _;first|exact Bool.noConfusion AV|replace AV:=of_decide_eq_true AV|replace AV:=of_decide_eq_false AV|skip)<;>((try simp only[AllOk,Bd.ok,and_true]at AV);first|contradiction|(revert AV;intros)))|((apply Ac)<;>intro _ _ _ _<;>try contradiction)|(apply Ab;intro _ _ _))|refine Fz ?_|fail));all_goals((conv=>whnf);try with_reducible apply At.mk)))
  refine DT.pure (.bool true) (ZS (a:=SI t S S.k) (b:=S5 t S S.k) rfl rfl rfl) ?_
  (focus((try with_reducible apply wpC.to);(repeat'((conv=>whnf);first|refine Ak ?_|(apply Fork.mk<;>(intro _;try(exfalso;omega)))|((apply Ar);(focus exact Ao);(focus exact AQ);(focus(first|exact HQ|exact Bz|exact Bp|exact Bn|exact Bo|exact Bj|exact DJ|exact Bh|exact Be|exact DK));first|((apply Ad)<;>(intro AV _ _ _;first|exact Bool.noConfusion AV|replace AV:=of_decide_eq_true AV|replace AV:=of_decide_eq_false AV|skip)<;>((try simp only[AllOk,Bd.ok,and_true]at AV);first|contradiction|(revert AV;intros)))|((apply Ac)<;>intro _ _ _ _<;>try contradiction)|(apply Ab;intro _ _ _))|refine Fz ?_|fail));all_goals((conv=>whnf);try with_reducible apply At.mk)))
  (refine Au ?_)
  rfl
 ·rw[hno hle]at hv8
  subst hv8
  (focus((try with_reducible apply wpC.to);(repeat'((conv=>whnf);first|refine Ak ?_|(apply Fork.mk<;>(intro _;try(exfalso;omega)))|((apply Ar);(focus exact Ao);(focus exact AQ);(focus(first|exact HQ|exact Bz|exact Bp|exact Bn|exact Bo|exact Bj|exact DJ|exact Bh|exact Be|exact DK));first|((apply Ad)<;>(intro AV _ _ _;first|exact Bool.noConfusion AV|replace AV:=of_decide_eq_true AV|replace AV:=of_decide_eq_false AV|skip)<;>((try simp only[AllOk,Bd.ok,and_true]at AV);first|contradiction|(revert AV;intros)))|((apply Ac)<;>intro _ _ _ _<;>try contradiction)|(apply Ab;intro _ _ _))|refine Fz ?_|fail));all_goals((conv=>whnf);try with_reducible apply At.mk)))
  (refine Au ?_)
  rfl
end AE.Tryz

/- What drag computes, in plain words: limits that are held. -/
namespace AE.Drag
open Go AE

structure Tests where
 k:Nat
 f:Nat->T
 b:Option Addr
 a:Addr
 c:Nat
structure Tests.Ok (Q:Tests) (m:Nat) (h:H):Prop where
 e:0<Q.k->Q.b=some Q.a
 i:JP h Q.a Q.k 16 (fun i=>(Q.f i).cells)
 r:0<Q.k->Q.a.block<m
 l:Q.k<=9223372036854775807
theorem Tests.Ok.same {Q:Tests}{m m':Nat}{h h':H}(k:Q.Ok m h) (s:Same m h h') (hm:m<=m'):Q.Ok m' h':=⟨k.e,k.i.same s k.r,fun h=>by have:=k.r h;omega,k.l⟩
structure Limits where
 n:Nat
 f:Nat->Int
 b:Option Addr
 a:Addr
 c:Nat
structure Limits.Ok (M:Limits) (m:Nat) (h:H):Prop where
 e:0<M.n->M.b=some M.a
 i:Ints h M.a M.n M.f
 r:0<M.n->M.a.block<m
 z:M.b=none\/far<=M.c\/∃a,M.b=some a/\a.block<m/\h.Bu a 0=some []
 f:0<M.n->M.c<far
 l:M.n<=9223372036854775807
theorem Limits.Ok.same {M:Limits}{m m':Nat}{h h':H}(k:M.Ok m h) (s:Same m h h') (hm:m<=m'):M.Ok m' h':=
 ⟨k.e,k.i.same s k.r,fun h=>by have:=k.r h;omega,k.z.imp id (Or.imp id fun⟨a,h1,h2,h3⟩=>⟨a,h1,by omega,by rw[s.Bu h2];exact h3⟩),k.f,k.l⟩

end AE.Drag

/- What comes in, for TopDragAgrees: the shapes of the arguments' types, and the values that they hold. -/
namespace AE.T9In
open Go Go.Proofs Go.Proofs.YtneenfjffejnoaaGreat AE AE.Drag AE.Tryz
set_option maxRecDepth 100000

def C4:Sh:=.cons (.int .i64) (.cons (.int .i64) .nil)
def PD:Sh:=.cons (.slice (.int .i64)) (.cons (.slice (.int .i64)) .nil)
def Kz:Sh:=.cons (.int .i64) (.cons (.int .i64) (.cons (.int .i64) (.cons (.int .i64) (.cons C4 (.cons C4 (.cons C4 (.cons C4 (.cons C4 (.cons C4 .nil)))))))))
theorem isInt:EO Tryz.prog (.int .i64) 2:=.int Tryz.underlying2
theorem nM:EO Tryz.prog (.slice (.int .i64)) 37:=.slice Tryz.underlying37 (by kernel_rfl) (by decide) isInt
theorem yg:EO Tryz.prog PD 71:=.struct Tryz.underlying71 (by kernel_rfl) (.cons (by kernel_rfl) (by kernel_rfl) nM (.cons (by kernel_rfl) (by kernel_rfl) nM .nil))
theorem GL:EO Tryz.prog C4 23:=.struct Tryz.underlying23 (by kernel_rfl) (.cons (by kernel_rfl) (by kernel_rfl) isInt (.cons (by kernel_rfl) (by kernel_rfl) isInt .nil))
theorem bD:EO Tryz.prog Kz 67:=.struct Tryz.underlying67 (by kernel_rfl) (.cons (by kernel_rfl) (by kernel_rfl) isInt (.cons (by kernel_rfl) (by kernel_rfl) isInt (.cons (by kernel_rfl) (by kernel_rfl) isInt (.cons (by kernel_rfl) (by kernel_rfl) isInt
 (.cons (by kernel_rfl) (by kernel_rfl) GL (.cons (by kernel_rfl) (by kernel_rfl) GL (.cons (by kernel_rfl) (by kernel_rfl) GL (.cons (by kernel_rfl) (by kernel_rfl) GL (.cons (by kernel_rfl) (by kernel_rfl) GL (.cons (by kernel_rfl) (by kernel_rfl) GL .nil))))))))))
theorem tH:EO Tryz.prog (.slice PD) 68:=.slice Tryz.underlying68 (by kernel_rfl) (by decide) yg


theorem ff {h:H}{m:Nat}{cs:List Value}(k:Fits h m (.slice (.int .i64)) cs):∃M:Limits,cs=[.slice M.b M.n M.c]/\M.Ok m h:=by
 obtain⟨b,a,n,c,rfl,h1,h2,h3,h4,h5,h6⟩:=k
 have hz:∀i,i<n->∃z:Int,h.Bu (BI a i) 1=some [.int .i64 z]:=fun i hi=>by
  obtain⟨l,e1,z,rfl, -⟩:=h6 i hi
  exact⟨z,by simpa[Sh.size]using e1⟩
 obtain⟨f,hf⟩:=GH (0:Int) hz
 have MW:0<n->c<far:=fun h0=>by
  rcases h2 with h2|⟨-,h2⟩
  ·unfold maxLen at h2;unfold far;omega
  ·omega
 exact⟨⟨n,f,b,a,c⟩,rfl,h3,hf,fun h=>(h4 h).1,h5.elim (fun x=>.inl x.1) fun x=>.inr (x.elim (fun⟨_,_,y⟩=>.inl (by show far<=c;omega)) fun⟨a',y1,y2,y3,_⟩=>.inr ⟨a',y1,y2,y3⟩),MW,by
  show n<=_
  rcases h2 with h2|⟨-,h2⟩
  ·unfold maxLen at h2;omega
  ·omega⟩
theorem sV {h:H}{m:Nat}{cs:List Value}(k:Fits h m PD cs):∃L:Line,cs=L.cells/\L.Ok m h:=by
 obtain⟨c1,c2,rfl,k1,c3,c4,rfl,k2,k3⟩:=k
 have k3:c4=[]:=k3
 subst k3
 obtain⟨A,rfl,hA⟩:=ff k1
 obtain⟨B,rfl,hB⟩:=ff k2
 exact⟨⟨A.n,A.f,B.n,B.f,A.b,A.a,A.c,B.b,B.a,B.c⟩,rfl,hA.e,hA.i,hA.r,hB.e,hB.i,hB.r,hA.l,hB.l⟩
theorem VJ {h:H}{m:Nat}{cs:List Value}(k:Fits h m Kz cs):∃t:T,cs=t.cells:=by
 obtain⟨zs,rfl,l, -⟩:=HA (k:=.i64) (by decide) k
 match zs,l with
 |[a,b,c,d,e,f,g,h,i,j,k,l,m,n,o,p],_=>exact⟨⟨a,b,c,d,e,f,g,h,i,j,k,l,m,n,o,p⟩,rfl⟩
theorem jg {h:H}{m:Nat}{cs:List Value}(k:Fits h m (.slice PD) cs):∃S:Lines,cs=[.slice S.b S.k S.c]/\S.Ok m h/\S.Flat:=by
 have k0:=k
 obtain⟨b,a,n,c,rfl,h1,h2,h3,h4,h5,h6⟩:=k0
 have hz:∀i,i<n->∃L:Line,h.Bu (BI a (i*2)) 2=some L.cells/\L.Ok m h:=fun i hi=>by
  obtain⟨l,e1,k1⟩:=h6 i hi
  obtain⟨L,rfl,hL⟩:=sV k1
  exact⟨L,e1,hL⟩
 obtain⟨f,hf⟩:=GH (⟨0,fun _=>0,0,fun _=>0,none,a,0,none,a,0⟩:Line) hz
 refine⟨⟨n,f,b,a,c⟩,rfl,⟨h3,fun i hi=>(hf i hi).1,fun h=>(h4 h).1,fun i hi=>(hf i hi).2,?_⟩,fun h=>(h4 h).2,h1,fun h=>?_⟩
 ·show n<=_
  rcases h2 with h2|⟨-,h2⟩
  ·unfold maxLen at h2;omega
  ·omega
 ·have h:0<n:=h
  show c<far
  rcases h2 with h2|⟨-,h2⟩
  ·unfold maxLen at h2;unfold far;omega
  ·omega
end AE.T9In
