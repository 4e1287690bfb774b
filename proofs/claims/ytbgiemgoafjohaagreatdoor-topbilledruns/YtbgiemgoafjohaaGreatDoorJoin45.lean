/- Walks and plain laws: T12W, T12R. -/
import Derived.Test.YtbgiemgoafjohaaGreatDoorJoin59
import Derived.Test.YtbgiemgoafjohaaGreatDoorT12K39
import Derived.Test.YtbgiemgoafjohaaGreatDoorJoin90
import Derived.Test.YtbgiemgoafjohaaGreatDoorJoin93
set_option linter.unusedVariables false
set_option linter.unusedSimpArgs false
set_option linter.unusedSectionVars false

/- Works of the layers up to 12. -/
namespace AE.Tryz
open Go AE Go.Proofs
set_option maxRecDepth 100000
theorem sR {h:H}:AW Tryz.prog 39 h.next h [] (fun v h'=>v= .bool true/\h'=h):=AE.KerP.El rfl eQ qc
theorem Wb {h:H}:AW Tryz.prog 9 h.next h [] (fun v _=>v= .bool true):=by
 refine qP.call rfl (Nat.le_refl _) ?_
 unfold a9
 (first|(refine Ai ?_)|(trace "SITE T12W 1";(focus((try with_reducible apply wpC.to);(repeat'((conv=>whnf);first|refine Aw ?_|fail));all_goals((conv=>whnf);try with_reducible apply At.mk)))))
 apply Ak
 focus(exact Ae)
 focus(exact AK)
 focus exact Wc
 rintro _ h1 rfl q1 n1
 (first|(refine Ai ?_)|(trace "SITE T12W 2";(focus((try with_reducible apply wpC.to);(repeat'((conv=>whnf);first|refine Aw ?_|fail));all_goals((conv=>whnf);try with_reducible apply At.mk)))))
 apply Ak
 focus(exact Ae)
 focus(exact AK)
 focus exact sS
 rintro _ h2 ⟨rfl,rfl⟩ q2 n2
 (first|(refine Ai ?_)|(trace "SITE T12W 3";(focus((try with_reducible apply wpC.to);(repeat'((conv=>whnf);first|refine Aw ?_|fail));all_goals((conv=>whnf);try with_reducible apply At.mk)))))
 apply Ak
 focus(exact Ae)
 focus(exact AK)
 focus exact sR
 rintro _ h3 ⟨rfl,rfl⟩ q3 n3
 (first|(refine Ai ?_)|(trace "SITE T12W 4";(focus((try with_reducible apply wpC.to);(repeat'((conv=>whnf);first|refine Aw ?_|fail));all_goals((conv=>whnf);try with_reducible apply At.mk)))))
 (refine AA ?_)
 rfl
theorem dO {lo nb:Nat}{q:Bool}{hh:H}{fv:Value}{args:List Value}{k:Value->H->Prop}(en:hh.next=nb) (hlo:lo<=nb) (hk:∀h',k (.bool true) h'):Ov Tryz.prog 9 lo q hh fv args [] k:=Eo en hlo Wb fun h' _ _=>hk h'
end AE.Tryz

/- Walk of TopBilledRuns. -/
namespace AE.Tryz
open Go AE Go.Proofs AE.Fair AE.Clerk
set_option maxRecDepth 100000
set_option linter.unusedVariables false
theorem fx {h:H}{n c m:Nat}{f:Nat->Ln}{b:Option Addr}{a:Addr}(hm:m<=h.next) (hB:Bk.Ok ⟨n,f,b,a,c⟩ m h):AW Tryz.prog 14 h.next h [.slice b n c] (fun v h'=>nC h n f v h'):=Tj hm hB
theorem jr {h:H}{n c m:Nat}{f:Nat->Ln}{b:Option Addr}{a:Addr}(hm:m<=h.next) (hB:Bk.Ok ⟨n,f,b,a,c⟩ m h) (hg:Good n f) (ha:∀i,i<n->Ee f i=0):AW Tryz.prog 13 h.next h [.slice b n c] (fun v _=>v= .bool true):=UU (B:=⟨n,f,b,a,c⟩) hm hB hg ha
theorem YU {h:H}{r m n c:Nat}{e:TypeId}{f:Nat->Ln}{w:Option Addr}(G:LT r h e 4 n (rowsOf (fun i=>(f i).cells) n) w c) (hr:r<m) (hn:n<=1000):∃a,Bk.Ok ⟨n,f,w,a,c⟩ m h:=by
 obtain⟨B,rfl,rfl,rfl,rfl,hB⟩:=dR G hr hn
 exact⟨B.a,hB⟩
theorem fk {h:H}{n c m:Nat}{f:Nat->Ln}{b:Option Addr}{a:Addr}{x:CU}(hm:m<=h.next) (hB:Bk.Ok ⟨n,f,b,a,c⟩ m h) (hg:Good n f) (h1:(after f n).BS=0) (h2:(after f n).lost=0) (h3:(after f n).ms=[x]):
 AW Tryz.prog 15 h.next h [.slice b n c] (fun v h'=>∃r,v= .tuple #[.agg ⟨[.int .i64 0,.int .i64 0,.slice (FF r 1) 1 0]⟩,.int .i64 0]/\GX r h' 52 8 1 (cellsOf OD [x])/\h.next<=r/\r<h'.next):=by
 obtain⟨v,h',hv,w⟩:=dF hm hB
 unfold jy at hv
 dsimp only at hv
 have hv:=hv.elim (fun h=>absurd hg h.1) (·.2)
 rw[h1,h2,h3]at hv
 have e1:Db [x]=[x]:=by simp[Db]
 rw[e1]at hv
 obtain⟨r,e,gx,rb⟩:=hv
 exact⟨v,h',⟨r,e,gx,rb (by simp)⟩,w⟩
structure vE where
 j:Nat
 r:Nat
 w:Option Addr
 c:Nat
set_option maxHeartbeats 4000000 in
theorem ai {h:H}{D:Day}{m:Nat}{E7 rate which:Int}(hm:m<=h.next) (hD:D.Ok m h) (hw:0<=E7/\E7<65536) (hr:0<=rate/\rate<65536) (hx:0<=which/\which<256):
 AW Tryz.prog 3 h.next h [.agg ⟨D.cells⟩,.int .u16 E7,.int .u16 rate,.int .u8 which] (fun v _=>v= .bool true):=by
 have dl:=hD.l
 refine qR.call rfl (Nat.le_refl _) ?_
 unfold a3
 unfold Day.cells
 (first|(refine Ai ?_;fail_if_success (first|((with_reducible apply Ak);(focus exact Ae);(focus exact AK);(focus(first|exact Bh|exact Bf|exact Bg|exact Bc|exact Bd|exact Be));first|((with_reducible apply AH)<;>(intro Am _ _ _;first|exact Bool.noConfusion Am|replace Am:=of_decide_eq_true Am|replace Am:=of_decide_eq_false Am|skip)<;>((try(unfold CP at Am));first|contradiction|(revert Am;intros)))|((with_reducible apply AG)<;>(intro _ _ _ _;try contradiction))|((with_reducible apply AB);intro _ _ _))))|(trace "SITE T12R 1";(focus((try with_reducible apply wpC.to);(repeat'((conv=>whnf);first|refine Aw ?_|(apply Fork.mk<;>(intro _;try(exfalso;omega)))|((apply Ak);(focus exact Ae);(focus exact AK);(focus(first|exact Bh|exact Bf|exact Bg|exact Bc|exact Bd|exact Be));first|((apply AH)<;>(intro Am _ _ _;first|exact Bool.noConfusion Am|replace Am:=of_decide_eq_true Am|replace Am:=of_decide_eq_false Am|skip)<;>((try(unfold CP at Am));first|contradiction|(revert Am;intros)))|((apply AG)<;>intro _ _ _ _<;>try contradiction)|(apply AB;intro _ _ _))|fail));all_goals((conv=>whnf);try with_reducible apply At.mk)))))
 apply Ak
 focus(exact Ae)
 focus(exact AK)
 focus exact cW (D:=D) (m:=m) Ag (hD.same AO (Nat.le_refl _))
 rintro _ h1 ⟨b,rfl,hb⟩ q1 n1
 by_cases V:D.Valid
 rotate_left
 ·obtain rfl:b=false:=by cases b with
   |false=>rfl
   |true=>exact absurd (hb.1 rfl) V
  (first|(refine Ai ?_;fail_if_success (first|((with_reducible apply Ak);(focus exact Ae);(focus exact AK);(focus(first|exact Bh|exact Bf|exact Bg|exact Bc|exact Bd|exact Be));first|((with_reducible apply AH)<;>(intro Am _ _ _;first|exact Bool.noConfusion Am|replace Am:=of_decide_eq_true Am|replace Am:=of_decide_eq_false Am|skip)<;>((try(unfold CP at Am));first|contradiction|(revert Am;intros)))|((with_reducible apply AG)<;>(intro _ _ _ _;try contradiction))|((with_reducible apply AB);intro _ _ _))))|(trace "SITE T12R 2";(focus((try with_reducible apply wpC.to);(repeat'((conv=>whnf);first|refine Aw ?_|(apply Fork.mk<;>(intro _;try(exfalso;omega)))|((apply Ak);(focus exact Ae);(focus exact AK);(focus(first|exact Bh|exact Bf|exact Bg|exact Bc|exact Bd|exact Be));first|((apply AH)<;>(intro Am _ _ _;first|exact Bool.noConfusion Am|replace Am:=of_decide_eq_true Am|replace Am:=of_decide_eq_false Am|skip)<;>((try(unfold CP at Am));first|contradiction|(revert Am;intros)))|((apply AG)<;>intro _ _ _ _<;>try contradiction)|(apply AB;intro _ _ _))|fail));all_goals((conv=>whnf);try with_reducible apply At.mk)))))
  ((apply dO;(focus(exact Ae));(focus(exact AK));intro _;(first|(refine Ai ?_;fail_if_success (first|((with_reducible apply Ak);(focus exact Ae);(focus exact AK);(focus(first|exact Bh|exact Bf|exact Bg|exact Bc|exact Bd|exact Be));first|((with_reducible apply AH)<;>(intro Am _ _ _;first|exact Bool.noConfusion Am|replace Am:=of_decide_eq_true Am|replace Am:=of_decide_eq_false Am|skip)<;>((try(unfold CP at Am));first|contradiction|(revert Am;intros)))|((with_reducible apply AG)<;>(intro _ _ _ _;try contradiction))|((with_reducible apply AB);intro _ _ _))))|(trace "SITE T12R 3";(focus((try with_reducible apply wpC.to);(repeat'((conv=>whnf);first|refine Aw ?_|(apply Fork.mk<;>(intro _;try(exfalso;omega)))|((apply Ak);(focus exact Ae);(focus exact AK);(focus(first|exact Bh|exact Bf|exact Bg|exact Bc|exact Bd|exact Be));first|((apply AH)<;>(intro Am _ _ _;first|exact Bool.noConfusion Am|replace Am:=of_decide_eq_true Am|replace Am:=of_decide_eq_false Am|skip)<;>((try(unfold CP at Am));first|contradiction|(revert Am;intros)))|((apply AG)<;>intro _ _ _ _<;>try contradiction)|(apply AB;intro _ _ _))|fail));all_goals((conv=>whnf);try with_reducible apply At.mk)))));(refine AA ?_);rfl))
 obtain rfl:b=true:=hb.2 V
 have v2:=V.n2
 (first|(refine Ai ?_;fail_if_success (first|((with_reducible apply Ak);(focus exact Ae);(focus exact AK);(focus(first|exact Bh|exact Bf|exact Bg|exact Bc|exact Bd|exact Be));first|((with_reducible apply AH)<;>(intro Am _ _ _;first|exact Bool.noConfusion Am|replace Am:=of_decide_eq_true Am|replace Am:=of_decide_eq_false Am|skip)<;>((try(unfold CP at Am));first|contradiction|(revert Am;intros)))|((with_reducible apply AG)<;>(intro _ _ _ _;try contradiction))|((with_reducible apply AB);intro _ _ _))))|(trace "SITE T12R 4";(focus((try with_reducible apply wpC.to);(repeat'((conv=>whnf);first|refine Aw ?_|(apply Fork.mk<;>(intro _;try(exfalso;omega)))|((apply Ak);(focus exact Ae);(focus exact AK);(focus(first|exact Bh|exact Bf|exact Bg|exact Bc|exact Bd|exact Be));first|((apply AH)<;>(intro Am _ _ _;first|exact Bool.noConfusion Am|replace Am:=of_decide_eq_true Am|replace Am:=of_decide_eq_false Am|skip)<;>((try(unfold CP at Am));first|contradiction|(revert Am;intros)))|((apply AG)<;>intro _ _ _ _<;>try contradiction)|(apply AB;intro _ _ _))|fail));all_goals((conv=>whnf);try with_reducible apply At.mk)))))
 apply Ak
 focus(exact Ae)
 focus(exact AK)
 focus exact ji (D:=D) (m:=m) Ag (hD.same AO (Nat.le_refl _)) V
 rintro _ h2 ⟨B,rfl,hB,O,b1⟩ q2 n2
 have b8:=O.le
 have bl:=hB.l
 (first|(refine Ai ?_;fail_if_success (first|((with_reducible apply Ak);(focus exact Ae);(focus exact AK);(focus(first|exact Bh|exact Bf|exact Bg|exact Bc|exact Bd|exact Be));first|((with_reducible apply AH)<;>(intro Am _ _ _;first|exact Bool.noConfusion Am|replace Am:=of_decide_eq_true Am|replace Am:=of_decide_eq_false Am|skip)<;>((try(unfold CP at Am));first|contradiction|(revert Am;intros)))|((with_reducible apply AG)<;>(intro _ _ _ _;try contradiction))|((with_reducible apply AB);intro _ _ _))))|(trace "SITE T12R 5";(focus((try with_reducible apply wpC.to);(repeat'((conv=>whnf);first|refine Aw ?_|(apply Fork.mk<;>(intro _;try(exfalso;omega)))|((apply Ak);(focus exact Ae);(focus exact AK);(focus(first|exact Bh|exact Bf|exact Bg|exact Bc|exact Bd|exact Be));first|((apply AH)<;>(intro Am _ _ _;first|exact Bool.noConfusion Am|replace Am:=of_decide_eq_true Am|replace Am:=of_decide_eq_false Am|skip)<;>((try(unfold CP at Am));first|contradiction|(revert Am;intros)))|((apply AG)<;>intro _ _ _ _<;>try contradiction)|(apply AB;intro _ _ _))|fail));all_goals((conv=>whnf);try with_reducible apply At.mk)))))
 apply Eo
 focus(exact Ae)
 focus(exact AK)
 focus exact WN (D:=D) (L:=B) (m:=m) (m':=h2.next) Ag Ag (hD.same AO (Nat.le_refl _)) (hB.same AO (Nat.le_refl _)) V ⟨O.le,O.r,O.d⟩
 intro h3 q3 n3
 have s3:Same h.next h h3:=fun x hx=>(q3.same x Ag).trans ((Ac fun y hy=>Aa).trans ((q2.same x Ag).trans ((Ac fun y hy=>Aa).trans ((q1.same x Ag).trans D6))))
 have k3:h3.get h.next=some (.cells [.int .i64 D.kl,.int .i64 D.kh,.slice D.b D.n D.c] 26):=(q3.same _ Ag).trans ((Ac fun y hy=>Aa).trans ((q2.same _ Ag).trans ((Ac fun y hy=>Aa).trans ((q1.same _ Ag).trans Aa))))
 have B3:B.Ok h3.next h3:=hB.same (m:=h2.next) (fun x hx=>(q3.same x Ag).trans D6) Ag
 have pY:h.next+1<=h3.next:=by(exact Ag)
 clear q1 q2 q3 n1 n2 n3 hB hb
 have vK:=Int.emod_nonneg which (show(B.n:Int)≠0 by omega)
 have vJ:=Int.emod_lt_of_pos which (show(0:Int)<(B.n:Int) by omega)
 obtain⟨w,ew⟩:∃w:Nat,(w:Int)=which%(B.n:Int):=⟨(which%(B.n:Int)).toNat,by omega⟩
 have mb:0<=(1+rate) * (B.n:Int)/\(1+rate) * (B.n:Int)<=65536*8:=⟨Int.mul_nonneg Af Af,Int.mul_le_mul Af Af Af Af⟩
 have good:∀{N},N<=7+B.n->Good N (Cb (fun j=>(B.f j:Int)) (fun j=>(D.f (B.f j)).mi) B.n (1+E7) (1+rate) w):=fun{N} hN=>XF Af Af Af Af (fun j hj=>by have:=O.r j hj;omega) (fun j hj=>by have:=(V.r (B.f j) (O.r j hj)).1;omega) hN
 obtain⟨sF,sE,sD,sC,sB⟩:=aj (g:=fun j=>(B.f j:Int)) (u:=fun j=>(D.f (B.f j)).mi) (k:=B.n) (AX:=1+E7) (cost:=1+rate) (w:=w) Af Af
 have f3:rowsOf (fun i=>(Cb (fun j=>(B.f j:Int)) (fun j=>(D.f (B.f j)).mi) B.n (1+E7) (1+rate) w i).cells) 3=[.int .i64 0,.int .i64 0,.int .i64 (1+E7),.int .i64 0,.int .i64 1,.int .i64 9,.int .i64 (1+E7),.int .i64 0,.int .i64 2,.int .i64 9,.int .i64 0,.int .i64 0]:=rfl
 have fr:∀j,j<B.n->Cb (fun j=>(B.f j:Int)) (fun j=>(D.f (B.f j)).mi) B.n (1+E7) (1+rate) w (3+j)=⟨3,9,1+(B.f j:Int),(D.f (B.f j)).mi⟩:=fun j hj=>LQ hj
 have fb:Cb (fun j=>(B.f j:Int)) (fun j=>(D.f (B.f j)).mi) B.n (1+E7) (1+rate) w (3+B.n)=⟨5,9,1+rate,0⟩:=J6
 have fp:Cb (fun j=>(B.f j:Int)) (fun j=>(D.f (B.f j)).mi) B.n (1+E7) (1+rate) w (3+B.n+1)=⟨6,9,(1+rate) * (B.n:Int),0⟩:=LR
 have fc:Cb (fun j=>(B.f j:Int)) (fun j=>(D.f (B.f j)).mi) B.n (1+E7) (1+rate) w (3+B.n+1+1)=⟨7,9,3+which%(B.n:Int),0⟩:=by rw[Fv Af,ew]
 have fd:Cb (fun j=>(B.f j:Int)) (fun j=>(D.f (B.f j)).mi) B.n (1+E7) (1+rate) w (3+B.n+1+1+1)=⟨7,9,3+which%(B.n:Int),0⟩:=by rw[Fv Af,ew]
 rw[show 6+B.n=3+B.n+3 by omega]at sF sE sD sC sB
 generalize Cb (fun j=>(B.f j:Int)) (fun j=>(D.f (B.f j)).mi) B.n (1+E7) (1+rate) w=F at*
 (first|(refine Ai ?_;fail_if_success (first|((with_reducible apply Ak);(focus exact Ae);(focus exact AK);(focus(first|exact Bh|exact Bf|exact Bg|exact Bc|exact Bd|exact Be));first|((with_reducible apply AH)<;>(intro Am _ _ _;first|exact Bool.noConfusion Am|replace Am:=of_decide_eq_true Am|replace Am:=of_decide_eq_false Am|skip)<;>((try(unfold CP at Am));first|contradiction|(revert Am;intros)))|((with_reducible apply AG)<;>(intro _ _ _ _;try contradiction))|((with_reducible apply AB);intro _ _ _))))|(trace "SITE T12R 6";(focus((try with_reducible apply wpC.to);(repeat'((conv=>whnf);first|refine Aw ?_|(apply Fork.mk<;>(intro _;try(exfalso;omega)))|((apply Ak);(focus exact Ae);(focus exact AK);(focus(first|exact Bh|exact Bf|exact Bg|exact Bc|exact Bd|exact Be));first|((apply AH)<;>(intro Am _ _ _;first|exact Bool.noConfusion Am|replace Am:=of_decide_eq_true Am|replace Am:=of_decide_eq_false Am|skip)<;>((try(unfold CP at Am));first|contradiction|(revert Am;intros)))|((apply AG)<;>intro _ _ _ _<;>try contradiction)|(apply AB;intro _ _ _))|fail));all_goals((conv=>whnf);try with_reducible apply At.mk)))))
 rename_i X0 ku pX
 refine wp_loop (fun x:vE=>[(3,.int .u8 which),(4,.pointer (some ⟨h.next,0,none⟩)),(9,.slice B.b B.n B.c),(11,.int .i64 (1+E7)),(12,.int .i64 (1+rate)),(13,.slice x.w (3+x.j) x.c),(14,.int .i64 x.j)])
  (fun x X=>Same h3.next h3 X/\h3.next+15<=X.next/\LT x.r X 36 4 (3+x.j) (rowsOf (fun i=>(F i).cells) (3+x.j)) x.w x.c/\(h3.next<=x.r/\x.r<X.next)/\x.j<=B.n) (fun x=>B.n - x.j) ⟨0,h3.next+13,some ⟨h3.next+13,0,none⟩,3⟩ ⟨rfl,rfl,rfl,rfl,rfl,rfl,rfl,trivial⟩ ⟨AO,Ag,.inl ⟨rfl,rfl,by unfold far;dsimp only;omega,by dsimp only;rw[f3];rfl,by dsimp only;rw[f3];(exact Aa)⟩,⟨by dsimp only;omega,by dsimp only;(exact Ag)⟩,by dsimp only;omega⟩ ?_
 clear ku pX
 rintro⟨j,r,v,c⟩ g X ⟨sX,nX,G,hrr,hj⟩ K hK
 dsimp only at G hrr hj
 dsimp only at hK⊢
 have kX:=(sX h.next Af).trans k3
 have BX:=B3.same (m':=h3.next) sX (Nat.le_refl _)
 have DX:=hD.same (m':=m) (fun x hx=>(sX x Af).trans (s3 x Af)) (Nat.le_refl _)
 have cf:=G.cap
 by_cases hjn:j<B.n
 ·have i1:=BX.i
  have e1:=BX.e
  have r1:=BX.r
  have lm:=DX.pm (O.r j hjn)
  have dj:=O.r j hjn
  have e2:=DX.e
  have vr:=V.r _ dj
  unfold E0 at vr
  (first|(refine Ai ?_;fail_if_success (first|((with_reducible apply Ak);(focus exact Ae);(focus exact AK);(focus(first|exact Bh|exact Bf|exact Bg|exact Bc|exact Bd|exact Be));first|((with_reducible apply AH)<;>(intro Am _ _ _;first|exact Bool.noConfusion Am|replace Am:=of_decide_eq_true Am|replace Am:=of_decide_eq_false Am|skip)<;>((try(unfold CP at Am));first|contradiction|(revert Am;intros)))|((with_reducible apply AG)<;>(intro _ _ _ _;try contradiction))|((with_reducible apply AB);intro _ _ _))))|(trace "SITE T12R 7";(focus((try with_reducible apply wpC.to);(repeat'((conv=>whnf);first|refine Aw ?_|(apply Fork.mk<;>(intro _;try(exfalso;omega)))|((apply Ak);(focus exact Ae);(focus exact AK);(focus(first|exact Bh|exact Bf|exact Bg|exact Bc|exact Bd|exact Be));first|((apply AH)<;>(intro Am _ _ _;first|exact Bool.noConfusion Am|replace Am:=of_decide_eq_true Am|replace Am:=of_decide_eq_false Am|skip)<;>((try(unfold CP at Am));first|contradiction|(revert Am;intros)))|((apply AG)<;>intro _ _ _ _<;>try contradiction)|(apply AB;intro _ _ _))|fail));all_goals((conv=>whnf);try with_reducible apply At.mk)))))
  apply Vk (r:=r) (n:=3+j) (m:=1) (cs:=rowsOf (fun i=>(F i).cells) (3+j)) (nc:=(F (3+j)).cells) (w:=v) (c:=c)
  case G=>exact G.frame D6
  case hsv=>exact rfl
  case C=>
   rw[fr j hjn]
   apply Cells.one
   focus(apply B6;(focus(exact Aa));(focus exact rfl))
   focus(unfold AE.far;omega)
   focus exact rfl
   focus exact rfl
  case hm=>omega
  case hlo=>(exact Ag)
  case hlr=>omega
  case hsm=>omega
  intro w' r' h5 hr' f5 n5 G5
  simp only[Dv]at n5
  (first|(refine Ai ?_;fail_if_success (first|((with_reducible apply Ak);(focus exact Ae);(focus exact AK);(focus(first|exact Bh|exact Bf|exact Bg|exact Bc|exact Bd|exact Be));first|((with_reducible apply AH)<;>(intro Am _ _ _;first|exact Bool.noConfusion Am|replace Am:=of_decide_eq_true Am|replace Am:=of_decide_eq_false Am|skip)<;>((try(unfold CP at Am));first|contradiction|(revert Am;intros)))|((with_reducible apply AG)<;>(intro _ _ _ _;try contradiction))|((with_reducible apply AB);intro _ _ _))))|(trace "SITE T12R 8";(focus((try with_reducible apply wpC.to);(repeat'((conv=>whnf);first|refine Aw ?_|(apply Fork.mk<;>(intro _;try(exfalso;omega)))|((apply Ak);(focus exact Ae);(focus exact AK);(focus(first|exact Bh|exact Bf|exact Bg|exact Bc|exact Bd|exact Be));first|((apply AH)<;>(intro Am _ _ _;first|exact Bool.noConfusion Am|replace Am:=of_decide_eq_true Am|replace Am:=of_decide_eq_false Am|skip)<;>((try(unfold CP at Am));first|contradiction|(revert Am;intros)))|((apply AG)<;>intro _ _ _ _<;>try contradiction)|(apply AB;intro _ _ _))|fail));all_goals((conv=>whnf);try with_reducible apply At.mk)))))
  have s5:Same h3.next h3 h5:=fun x hx=>(f5 x Af).trans ((Ac fun y hy=>Aa).trans (sX x hx))
  exact hK ⟨j+1,r',w',0⟩ _ _ ⟨rfl,rfl,rfl,rfl,rfl,rfl,BQ rfl (by dsimp only;omega),trivial⟩ ⟨AO,Ag,G5.frame D6,⟨by dsimp only;omega,by dsimp only;(exact Ag)⟩,by dsimp only;omega⟩ (by dsimp only;omega)
 obtain rfl:j=B.n:=by omega
 clear hK
 (first|(refine Ai ?_;fail_if_success (first|((with_reducible apply Ak);(focus exact Ae);(focus exact AK);(focus(first|exact Bh|exact Bf|exact Bg|exact Bc|exact Bd|exact Be));first|((with_reducible apply AH)<;>(intro Am _ _ _;first|exact Bool.noConfusion Am|replace Am:=of_decide_eq_true Am|replace Am:=of_decide_eq_false Am|skip)<;>((try(unfold CP at Am));first|contradiction|(revert Am;intros)))|((with_reducible apply AG)<;>(intro _ _ _ _;try contradiction))|((with_reducible apply AB);intro _ _ _))))|(trace "SITE T12R 9";(focus((try with_reducible apply wpC.to);(repeat'((conv=>whnf);first|refine Aw ?_|(apply Fork.mk<;>(intro _;try(exfalso;omega)))|((apply Ak);(focus exact Ae);(focus exact AK);(focus(first|exact Bh|exact Bf|exact Bg|exact Bc|exact Bd|exact Be));first|((apply AH)<;>(intro Am _ _ _;first|exact Bool.noConfusion Am|replace Am:=of_decide_eq_true Am|replace Am:=of_decide_eq_false Am|skip)<;>((try(unfold CP at Am));first|contradiction|(revert Am;intros)))|((apply AG)<;>intro _ _ _ _<;>try contradiction)|(apply AB;intro _ _ _))|fail));all_goals((conv=>whnf);try with_reducible apply At.mk)))))
 apply Vk (r:=r) (n:=3+B.n) (m:=3) (cs:=rowsOf (fun i=>(F i).cells) (3+B.n)) (nc:=[.int .i64 5,.int .i64 9,.int .i64 (1+rate),.int .i64 0,.int .i64 6,.int .i64 9,.int .i64 ((1+rate) * (B.n:Int)),.int .i64 0,.int .i64 7,.int .i64 9,.int .i64 (3+which%(B.n:Int)),.int .i64 0]) (w:=v) (c:=c)
 case G=>exact G.frame D6
 case hsv=>exact rfl
 case C=>exact⟨rfl,fun _=>by simp only[Ca];rw[if_neg Af];exact B6 (off:=0) Aa rfl,rfl,rfl⟩
 case hm=>omega
 case hlo=>(exact Ag)
 case hlr=>omega
 case hsm=>omega
 intro w5 r5 h5 rQ f5 n5 G5
 simp only[Dv]at n5
 (first|(refine Ai ?_;fail_if_success (first|((with_reducible apply Ak);(focus exact Ae);(focus exact AK);(focus(first|exact Bh|exact Bf|exact Bg|exact Bc|exact Bd|exact Be));first|((with_reducible apply AH)<;>(intro Am _ _ _;first|exact Bool.noConfusion Am|replace Am:=of_decide_eq_true Am|replace Am:=of_decide_eq_false Am|skip)<;>((try(unfold CP at Am));first|contradiction|(revert Am;intros)))|((with_reducible apply AG)<;>(intro _ _ _ _;try contradiction))|((with_reducible apply AB);intro _ _ _))))|(trace "SITE T12R 10";(focus((try with_reducible apply wpC.to);(repeat'((conv=>whnf);first|refine Aw ?_|(apply Fork.mk<;>(intro _;try(exfalso;omega)))|((apply Ak);(focus exact Ae);(focus exact AK);(focus(first|exact Bh|exact Bf|exact Bg|exact Bc|exact Bd|exact Be));first|((apply AH)<;>(intro Am _ _ _;first|exact Bool.noConfusion Am|replace Am:=of_decide_eq_true Am|replace Am:=of_decide_eq_false Am|skip)<;>((try(unfold CP at Am));first|contradiction|(revert Am;intros)))|((apply AG)<;>intro _ _ _ _<;>try contradiction)|(apply AB;intro _ _ _))|fail));all_goals((conv=>whnf);try with_reducible apply At.mk)))))
 have enc:rowsOf (fun i=>(F i).cells) (3+B.n)++[.int .i64 5,.int .i64 9,.int .i64 (1+rate),.int .i64 0,.int .i64 6,.int .i64 9,.int .i64 ((1+rate) * (B.n:Int)),.int .i64 0,.int .i64 7,.int .i64 9,.int .i64 (3+which%(B.n:Int)),.int .i64 0]=rowsOf (fun i=>(F i).cells) (3+B.n+3):=by
  show _=((rowsOf (fun i=>(F i).cells) (3+B.n)++(F (3+B.n)).cells)++(F (3+B.n+1)).cells)++(F (3+B.n+1+1)).cells
  rw[fb,fp,fc,List.append_assoc,List.append_assoc]
  rfl
 rw[enc]at G5
 have s5:Same h3.next h3 h5:=fun x hx=>(f5 x Af).trans ((Ac fun y hy=>Aa).trans (sX x hx))
 have g16:h5.get (X.next+16)=some (.cells [.int .i64 7,.int .i64 9,.int .i64 (3+which%(B.n:Int)),.int .i64 0] 36):=(f5 _ Af).trans Aa
 have tO:h3.next<=r5/\r5<h5.next:=by omega
 have n5':X.next+17<=h5.next:=by omega
 have B5:=B3.same (m':=h3.next) s5 (Nat.le_refl _)
 obtain⟨a5,K5⟩:=YU (m:=h5.next) G5 tO.2 Af
 have vP:r5≠X.next+16:=by omega
 clear f5 rQ n5
 apply Eo
 focus(exact Ae)
 focus(exact AK)
 focus exact jr (f:=F) (a:=a5) (m:=h5.next) Ag (K5.same (m':=h5.next) AO (Nat.le_refl _)) (good Af) sC
 intro h6 q6 n6
 (first|(refine Ai ?_;fail_if_success (first|((with_reducible apply Ak);(focus exact Ae);(focus exact AK);(focus(first|exact Bh|exact Bf|exact Bg|exact Bc|exact Bd|exact Be));first|((with_reducible apply AH)<;>(intro Am _ _ _;first|exact Bool.noConfusion Am|replace Am:=of_decide_eq_true Am|replace Am:=of_decide_eq_false Am|skip)<;>((try(unfold CP at Am));first|contradiction|(revert Am;intros)))|((with_reducible apply AG)<;>(intro _ _ _ _;try contradiction))|((with_reducible apply AB);intro _ _ _))))|(trace "SITE T12R 11";(focus((try with_reducible apply wpC.to);(repeat'((conv=>whnf);first|refine Aw ?_|(apply Fork.mk<;>(intro _;try(exfalso;omega)))|((apply Ak);(focus exact Ae);(focus exact AK);(focus(first|exact Bh|exact Bf|exact Bg|exact Bc|exact Bd|exact Be));first|((apply AH)<;>(intro Am _ _ _;first|exact Bool.noConfusion Am|replace Am:=of_decide_eq_true Am|replace Am:=of_decide_eq_false Am|skip)<;>((try(unfold CP at Am));first|contradiction|(revert Am;intros)))|((apply AG)<;>intro _ _ _ _<;>try contradiction)|(apply AB;intro _ _ _))|fail));all_goals((conv=>whnf);try with_reducible apply At.mk)))))
 apply YG (r:=r5) (n:=3+B.n+3) (m:=1) (cs:=rowsOf (fun i=>(F i).cells) (3+B.n+3)) (nc:=[.int .i64 7,.int .i64 9,.int .i64 (3+which%(B.n:Int)),.int .i64 0]) (w:=w5) (c:=0)
 case G=>exact G5.frame D6
 case hsv=>exact rfl
 case C=>exact⟨rfl,fun _=>by simp only[Ca];rw[if_neg Af];exact B6 (off:=0) Aa rfl,rfl,rfl⟩
 case hm=>omega
 case hlo=>(exact Ag)
 case hlr=>omega
 case hrn=>(exact Ag)
 case hsm=>omega
 intro w7 r7 h7 uL f7 n7 G7 kA
 have enc2:rowsOf (fun i=>(F i).cells) (3+B.n+3)++[.int .i64 7,.int .i64 9,.int .i64 (3+which%(B.n:Int)),.int .i64 0]=rowsOf (fun i=>(F i).cells) (3+B.n+3+1):=by
  show _=rowsOf (fun i=>(F i).cells) (3+B.n+3)++(F (3+B.n+1+1+1)).cells
  rw[fd]
  rfl
 rw[enc2]at G7
 simp only[Dv]at n7
 have n6':h5.next<=h6.next:=by(exact Ag)
 have n7':h6.next<=h7.next:=by(exact Ag)
 have tG:r7<h7.next:=by(exact Ag)
 obtain⟨a7,K7⟩:=YU (m:=h7.next) G7 tG Af
 obtain⟨a8,K8⟩:=fV (h:=h7) (m:=h7.next) G5 kA Af Af
 clear f7 uL n7 q6 n6 G5 G7 enc enc2 K5 kA
 (first|(refine Ai ?_;fail_if_success (first|((with_reducible apply Ak);(focus exact Ae);(focus exact AK);(focus(first|exact Bh|exact Bf|exact Bg|exact Bc|exact Bd|exact Be));first|((with_reducible apply AH)<;>(intro Am _ _ _;first|exact Bool.noConfusion Am|replace Am:=of_decide_eq_true Am|replace Am:=of_decide_eq_false Am|skip)<;>((try(unfold CP at Am));first|contradiction|(revert Am;intros)))|((with_reducible apply AG)<;>(intro _ _ _ _;try contradiction))|((with_reducible apply AB);intro _ _ _))))|(trace "SITE T12R 12";(focus((try with_reducible apply wpC.to);(repeat'((conv=>whnf);first|refine Aw ?_|(apply Fork.mk<;>(intro _;try(exfalso;omega)))|((apply Ak);(focus exact Ae);(focus exact AK);(focus(first|exact Bh|exact Bf|exact Bg|exact Bc|exact Bd|exact Be));first|((apply AH)<;>(intro Am _ _ _;first|exact Bool.noConfusion Am|replace Am:=of_decide_eq_true Am|replace Am:=of_decide_eq_false Am|skip)<;>((try(unfold CP at Am));first|contradiction|(revert Am;intros)))|((apply AG)<;>intro _ _ _ _<;>try contradiction)|(apply AB;intro _ _ _))|fail));all_goals((conv=>whnf);try with_reducible apply At.mk)))))
 apply Ak
 focus(exact Ae)
 focus(exact AK)
 focus exact fx (f:=F) (a:=a7) (m:=h7.next) Ag (K7.same (m':=h7.next) AO (Nat.le_refl _))
 rintro v8 h8 rP q8 n8
 obtain⟨re,rfl,ge,tA,rH⟩:=rP.elim (fun h=>absurd (good Af) h.1) (·.2)
 clear rP
 have gl:=O7 (i:=3+B.n+3) ge Af
 rw[sB]at gl
 have K9:=K8.same (m':=h7.next) (h':=h8) (fun x hx=>(q8.same x Ag).trans D6) (Nat.le_refl _)
 have vU:h7.next<=h8.next:=by(exact Ag)
 clear q8 n8
 (first|(refine Ai ?_;fail_if_success (first|((with_reducible apply Ak);(focus exact Ae);(focus exact AK);(focus(first|exact Bh|exact Bf|exact Bg|exact Bc|exact Bd|exact Be));first|((with_reducible apply AH)<;>(intro Am _ _ _;first|exact Bool.noConfusion Am|replace Am:=of_decide_eq_true Am|replace Am:=of_decide_eq_false Am|skip)<;>((try(unfold CP at Am));first|contradiction|(revert Am;intros)))|((with_reducible apply AG)<;>(intro _ _ _ _;try contradiction))|((with_reducible apply AB);intro _ _ _))))|(trace "SITE T12R 13";(focus((try with_reducible apply wpC.to);(repeat'((conv=>whnf);first|refine Aw ?_|(apply Fork.mk<;>(intro _;try(exfalso;omega)))|((apply Ak);(focus exact Ae);(focus exact AK);(focus(first|exact Bh|exact Bf|exact Bg|exact Bc|exact Bd|exact Be));first|((apply AH)<;>(intro Am _ _ _;first|exact Bool.noConfusion Am|replace Am:=of_decide_eq_true Am|replace Am:=of_decide_eq_false Am|skip)<;>((try(unfold CP at Am));first|contradiction|(revert Am;intros)))|((apply AG)<;>intro _ _ _ _<;>try contradiction)|(apply AB;intro _ _ _))|fail));all_goals((conv=>whnf);try with_reducible apply At.mk)))))
 apply Ak
 focus(exact Ae)
 focus(exact AK)
 focus exact fk (f:=F) (a:=a8) (m:=h7.next) Ag (K9.same (m':=h7.next) AO (Nat.le_refl _)) (good Af) sF sE sD
 rintro _ h9 ⟨rs,rfl,gx,tC,vO⟩ q9 n9
 simp only[C0]at tC
 (first|(refine Ai ?_;fail_if_success (first|((with_reducible apply Ak);(focus exact Ae);(focus exact AK);(focus(first|exact Bh|exact Bf|exact Bg|exact Bc|exact Bd|exact Be));first|((with_reducible apply AH)<;>(intro Am _ _ _;first|exact Bool.noConfusion Am|replace Am:=of_decide_eq_true Am|replace Am:=of_decide_eq_false Am|skip)<;>((try(unfold CP at Am));first|contradiction|(revert Am;intros)))|((with_reducible apply AG)<;>(intro _ _ _ _;try contradiction))|((with_reducible apply AB);intro _ _ _))))|(trace "SITE T12R 14";(focus((try with_reducible apply wpC.to);(repeat'((conv=>whnf);first|refine Aw ?_|(apply Fork.mk<;>(intro _;try(exfalso;omega)))|((apply Ak);(focus exact Ae);(focus exact AK);(focus(first|exact Bh|exact Bf|exact Bg|exact Bc|exact Bd|exact Be));first|((apply AH)<;>(intro Am _ _ _;first|exact Bool.noConfusion Am|replace Am:=of_decide_eq_true Am|replace Am:=of_decide_eq_false Am|skip)<;>((try(unfold CP at Am));first|contradiction|(revert Am;intros)))|((apply AG)<;>intro _ _ _ _<;>try contradiction)|(apply AB;intro _ _ _))|fail));all_goals((conv=>whnf);try with_reducible apply At.mk)))))
 apply Eo
 focus(exact Ae)
 focus(exact AK)
 focus exact Qb (l:=[⟨9,1,1+E7,B.n,0,(1+rate) * (B.n:Int),1+rate,(1+rate) * (B.n:Int),0⟩]) rfl (m:=h9.next+19) Ag (gQ (gx.frame fun h0=>Ac fun y hy=>Aa) (fun h0=>by omega)) (ck Aa Af) Af
 intro h10 rI n10
 (first|(refine Ai ?_;fail_if_success (first|((with_reducible apply Ak);(focus exact Ae);(focus exact AK);(focus(first|exact Bh|exact Bf|exact Bg|exact Bc|exact Bd|exact Be));first|((with_reducible apply AH)<;>(intro Am _ _ _;first|exact Bool.noConfusion Am|replace Am:=of_decide_eq_true Am|replace Am:=of_decide_eq_false Am|skip)<;>((try(unfold CP at Am));first|contradiction|(revert Am;intros)))|((with_reducible apply AG)<;>(intro _ _ _ _;try contradiction))|((with_reducible apply AB);intro _ _ _))))|(trace "SITE T12R 15";(focus((try with_reducible apply wpC.to);(repeat'((conv=>whnf);first|refine Aw ?_|(apply Fork.mk<;>(intro _;try(exfalso;omega)))|((apply Ak);(focus exact Ae);(focus exact AK);(focus(first|exact Bh|exact Bf|exact Bg|exact Bc|exact Bd|exact Be));first|((apply AH)<;>(intro Am _ _ _;first|exact Bool.noConfusion Am|replace Am:=of_decide_eq_true Am|replace Am:=of_decide_eq_false Am|skip)<;>((try(unfold CP at Am));first|contradiction|(revert Am;intros)))|((apply AG)<;>intro _ _ _ _<;>try contradiction)|(apply AB;intro _ _ _))|fail));all_goals((conv=>whnf);try with_reducible apply At.mk)))))
 ((apply dO;(focus(exact Ae));(focus(exact AK));intro _;(first|(refine Ai ?_;fail_if_success (first|((with_reducible apply Ak);(focus exact Ae);(focus exact AK);(focus(first|exact Bh|exact Bf|exact Bg|exact Bc|exact Bd|exact Be));first|((with_reducible apply AH)<;>(intro Am _ _ _;first|exact Bool.noConfusion Am|replace Am:=of_decide_eq_true Am|replace Am:=of_decide_eq_false Am|skip)<;>((try(unfold CP at Am));first|contradiction|(revert Am;intros)))|((with_reducible apply AG)<;>(intro _ _ _ _;try contradiction))|((with_reducible apply AB);intro _ _ _))))|(trace "SITE T12R 16";(focus((try with_reducible apply wpC.to);(repeat'((conv=>whnf);first|refine Aw ?_|(apply Fork.mk<;>(intro _;try(exfalso;omega)))|((apply Ak);(focus exact Ae);(focus exact AK);(focus(first|exact Bh|exact Bf|exact Bg|exact Bc|exact Bd|exact Be));first|((apply AH)<;>(intro Am _ _ _;first|exact Bool.noConfusion Am|replace Am:=of_decide_eq_true Am|replace Am:=of_decide_eq_false Am|skip)<;>((try(unfold CP at Am));first|contradiction|(revert Am;intros)))|((apply AG)<;>intro _ _ _ _<;>try contradiction)|(apply AB;intro _ _ _))|fail));all_goals((conv=>whnf);try with_reducible apply At.mk)))));(refine AA ?_);rfl))
end AE.Tryz
