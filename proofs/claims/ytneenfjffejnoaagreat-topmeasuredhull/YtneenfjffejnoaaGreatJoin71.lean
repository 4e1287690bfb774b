/- Walks and plain laws: T9Hc, T9FitM. -/
import Derived.Test.YtneenfjffejnoaaGreatJoin70
import Derived.Test.YtneenfjffejnoaaGreatAgreeOne
import Derived.Test.YtneenfjffejnoaaGreatT9Sm
import Derived.Test.YtneenfjffejnoaaGreatAELit
import Derived.Test.YtneenfjffejnoaaGreatJoin85
import Derived.Test.YtneenfjffejnoaaGreatT9W
import Derived.Test.YtneenfjffejnoaaGreatRows
import Derived.Test.YtneenfjffejnoaaGreatAEthree
import Derived.KernelRfl
set_option linter.unusedVariables false
set_option linter.unusedSimpArgs false
set_option linter.unusedSectionVars false

/- Walk of TopMeasuredHull. -/
namespace AE.Tryz
open Go AE Go.Proofs AE.Box AE.Fair
set_option maxRecDepth 100000
set_option linter.unusedVariables false

theorem uh {T F:AgreeS.Table}(k:AgreeS.One T) (kF:AgreeS.One F) (hs:∀y∈T.tests,y∈F.tests) {n:Int}{y:AgreeS.Test}(hy:y∈F.tests) (hl:y.lo=n+1) (ht:AgreeS.DR T 0) (hn:AgreeS.CZ T 0=n):¬AgreeS.CV F:=fun a=>by
 obtain⟨m,hm⟩:=kF.agrees.1 a
 have h1:=hm _ hy
 have:=AgreeS.FL k.ok (k.fits.2 ⟨fun _ _=>rfl,fun z hz=>hm z (hs z hz)⟩:AgreeS.Fits T (fun _=>0) fun _=>m) ht
 omega

structure MK (h:H) (T:C1) (G:Ph) (n:Nat) (x:Fr) (B1 B2 mQ:Nat) (i r:Nat) (w:Option Addr) (L U:Nat->Int) (X:H):Prop where
 sm:Same h.next h X
 g0:X.get h.next=some (.cells [.int .i64 T.sp,.int .i64 T.st,.slice T.b T.n T.c] 85)
 ok:G.Ok mQ X
 gx:X.get B1=some (.cells [.int .i64 x.n,.int .i64 x.d] 57)
 gt:X.get B2=some (.cells [.int .i64 n,.int .i64 1,.int .i64 0,.int .i64 0,.slice w i 0] 31)
 G:GG r X 33 4 i (rowsOf (fun j=>[.int .i64 j,.int .i64 0,.int .i64 (L j),.int .i64 (U j)]) i) w
 hr:0<i->B2<r/\r<X.next
 nx:B2<X.next

theorem MK.of {h:H}{T:C1}{G:Ph}{n:Nat}{x:Fr}{B1 B2 mQ i r:Nat}{w:Option Addr}{L U:Nat->Int}{X Y:H}(k:MK h T G n x B1 B2 mQ i r w L U X) (hB:h.next<mQ/\mQ<=B1/\B1<B2) (hs:∀s,s<X.next->Y.get s=X.get s) (hn:X.next<=Y.next):MK h T G n x B1 B2 mQ i r w L U Y:=
 have nx:=k.nx
 ⟨fun s hs'=>(hs s Al).trans (k.sm s hs'),(hs _ Al).trans k.g0,k.ok.same (fun s hs'=>hs s Al) (Nat.le_refl _),(hs _ Al).trans k.gx,(hs _ Al).trans k.gt,k.G.frame fun h0=>hs _ (k.hr h0).2,fun h0=>by have:=k.hr h0;omega,by omega⟩
structure YdS where
 i:Nat
 r:Nat
 w:Option Addr
 L:Nat->Int
 U:Nat->Int

set_option maxHeartbeats 4000000 in
set_option pp.maxSteps 100000 in
theorem aR {h:H}{T:C1}{B:ZN}{Yd:kG}{m:Nat}(hm:m<=h.next) (hT:T.Ok m h) (hB:B.Ok m h) (hY:Yd.Ok m h):
 AW Tryz.prog 6 h.next h [.agg ⟨T.cells⟩,.slice B.b B.n B.c,.slice Yd.b Yd.n Yd.c] (fun v _=>v= .bool true):=by
 have tl:=hT.l
 have bl:=hB.l
 have yl:=hY.l
 refine Anl.call rfl (Nat.le_refl _) ?_
 unfold a6 C1.cells
 by_cases hbig:10<T.n
 ·(focus((try with_reducible apply wpC.to);(repeat'((conv=>whnf);first|refine Ak ?_|(apply Fork.mk<;>(intro _;try(exfalso;omega)))|((refine AH ?_);first|((first|apply Ae|apply Ac|apply Ad)<;>intro _ _ _ _<;>try contradiction)|(apply Ab;intro _ _ _))|refine Am ?_|fail));all_goals((conv=>whnf);try with_reducible apply At.mk)))
  all_goals((refine Au ?_);rfl)
 (focus((try with_reducible apply wpC.to);(repeat'((conv=>whnf);first|refine Ak ?_|(apply Fork.mk<;>(intro _;try(exfalso;omega)))|((refine AH ?_);first|((first|apply Ae|apply Ac|apply Ad)<;>intro _ _ _ _<;>try contradiction)|(apply Ab;intro _ _ _))|refine Am ?_|fail));all_goals((conv=>whnf);try with_reducible apply At.mk)))
 apply Ar
 focus(exact Ao)
 focus(exact AQ)
 focus exact LD (T:=T) (m:=m) Ah (hT.same Aq (Nat.le_refl _))
 rintro _ h1 ⟨e,rfl,he⟩ q1 hn1
 by_cases V:T.Valid
 rotate_left
 ·have he0:e≠0:=fun h=>V (he.1 h)
  (focus((try with_reducible apply wpC.to);(repeat'((conv=>whnf);first|refine Ak ?_|(apply Fork.mk<;>(intro _;try(exfalso;omega)))|((refine AH ?_);first|((first|apply Ae|apply Ac|apply Ad)<;>intro _ _ _ _<;>try contradiction)|(apply Ab;intro _ _ _))|refine Am ?_|fail));all_goals((conv=>whnf);try with_reducible apply At.mk)))
  all_goals((refine Au ?_);rfl)
 obtain rfl:e=0:=he.2 V
 by_cases hbn:B.n<=80/\1<=Yd.n/\Yd.n<=6
 rotate_left
 ·(focus((try with_reducible apply wpC.to);(repeat'((conv=>whnf);first|refine Ak ?_|(apply Fork.mk<;>(intro _;try(exfalso;omega)))|((refine AH ?_);first|((first|apply Ae|apply Ac|apply Ad)<;>intro _ _ _ _<;>try contradiction)|(apply Ab;intro _ _ _))|refine Am ?_|fail));all_goals((conv=>whnf);try with_reducible apply At.mk)))
  all_goals((refine Au ?_);rfl)
 have s1:Same h.next h h1:=fun x hx=>(q1.same x Ah).trans Ep
 have g0:h1.get h.next=some (.cells [.int .i64 T.sp,.int .i64 T.st,.slice T.b T.n T.c] 85):=(q1.same _ Ah).trans Aa
 have hn1':h.next+1<=h1.next:=by(exact Ah)
 clear q1 hn1 he
 (focus((try with_reducible apply wpC.to);(repeat'((conv=>whnf);first|refine Ak ?_|(apply Fork.mk<;>(intro _;try(exfalso;omega)))|((refine AH ?_);first|((first|apply Ae|apply Ac|apply Ad)<;>intro _ _ _ _<;>try contradiction)|(apply Ab;intro _ _ _))|refine Am ?_|fail));all_goals((conv=>whnf);try with_reducible apply At.mk)))
 apply Ar
 focus(exact Ao)
 focus(exact AQ)
 focus exact wY (T:=T) (B:=B) (m:=m) (m':=m) Ah Ah (hT.same Aq (Nat.le_refl _)) (hB.same Aq (Nat.le_refl _)) V
 rintro _ h2 ⟨G,rfl,hG,F2,Gf⟩ q2 hn2
 have s2:Same h.next h h2:=fun x hx=>(q2.same x Ah).trans ((Aw fun y hy=>Aa).trans (s1 x hx))
 have g2:=(q2.same h.next Ah).trans ((Aw fun y hy=>by(exact Aa):_=h1.get h.next).trans g0)
 have yF:h1.next<=h2.next:=by(exact Ah)
 clear q2 hn2 g0 s1
 (focus((try with_reducible apply wpC.to);(repeat'((conv=>whnf);first|refine Ak ?_|(apply Fork.mk<;>(intro _;try(exfalso;omega)))|((refine AH ?_);first|((first|apply Ae|apply Ac|apply Ad)<;>intro _ _ _ _<;>try contradiction)|(apply Ab;intro _ _ _))|refine Am ?_|fail));all_goals((conv=>whnf);try with_reducible apply At.mk)))
 apply Ar
 focus(exact Ao)
 focus(exact AQ)
 focus exact XC (T:=T) (Y:=G) (m:=m) (m':=h2.next) Ah Ah (hT.same Aq (Nat.le_refl _)) (hG.same Aq (Nat.le_refl _)) F2
 rintro _ h3 rfl q3 Lj
 have s3:Same h2.next h2 h3:=fun x hx=>(q3.same x Ah).trans Ep
 have g3:=(s3 h.next Al).trans g2
 have bI:h2.next<=h3.next:=by(exact Ah)
 clear q3 Lj
 have vb:=VE V F2.inn
 have hf:=Rn (Ky T G.f)
 have hfn:=bQ vb.1
 have ex:fr (T.sp*T.st*T.FQ.VF G.f) 2=fr (Ky T G.f) 2:=rfl
 rw[ex]
 obtain⟨N0,eN⟩:∃N0,N0=Ky T G.f:=⟨_,rfl⟩
 rw[<-eN]at vb hf hfn⊢
 generalize fr N0 2=x at hf hfn⊢
 obtain⟨hd,hxn⟩:=hf
 unfold oN
 (focus((try with_reducible apply wpC.to);(repeat'((conv=>whnf);first|refine Ak ?_|(apply Fork.mk<;>(intro _;try(exfalso;omega)))|((refine AH ?_);first|((first|apply Ae|apply Ac|apply Ad)<;>intro _ _ _ _<;>try contradiction)|(apply Ab;intro _ _ _))|refine Am ?_|fail));all_goals((conv=>whnf);try with_reducible apply At.mk)))
 refine wp_loop (fun z:YdS=>[(2,.slice Yd.b Yd.n Yd.c),(3,.pointer (some ⟨h.next,0,none⟩)),(7,.slice G.b G.n G.c),(8,.pointer (some ⟨h2.next+6,0,none⟩)),(10,.pointer (some ⟨h3.next+20,0,none⟩)),(11,.int .i64 z.i)])
  (fun z X=>MK h T G Yd.n x (h2.next+6) (h3.next+20) h2.next z.i z.r z.w z.L z.U X/\z.i<=Yd.n/\∀j,j<z.i->z.L j<=N0/\N0<=z.U j) (fun z=>Yd.n - z.i) ⟨0,0,none,fun _=>0,fun _=>0⟩ ⟨rfl,rfl,rfl,rfl,rfl,rfl,trivial⟩ ⟨⟨fun y hy=>(Aw fun z hz=>Aa).trans ((s3 y Al).trans (s2 y hy)),Aa,hG.same (fun y hy=>(Aw fun z hz=>Aa).trans (s3 y hy)) (Nat.le_refl _),Aa,Aa,GG.nil,by simp,Ah⟩,by simp,fun j hj=>by simp at hj⟩ ?_
 clear g3 g2 s2 hG
 rintro⟨i,r,w,L,U⟩ g4 X ⟨M,hi,hall⟩ K hK
 dsimp only at M hi hall
 dsimp only at hK⊢
 have g0:=M.g0
 have gx:=M.gx
 have gt:=M.gt
 have nx:=M.nx
 have sm:=M.sm
 by_cases hin:i<Yd.n
 ·have w1:=V.w1
  have w2:=V.w2
  have n1:=V.n1
  have n2:=V.n2
  have gn:=F2.n
  have gw:=F2.w
  have hYi:=hY.ok i hin
  have ybl:=hYi.l
  (focus((try with_reducible apply wpC.to);(repeat'((conv=>whnf);first|refine Ak ?_|(apply Fork.mk<;>(intro _;try(exfalso;omega)))|((refine AH ?_);first|((first|apply Ae|apply Ac|apply Ad)<;>intro _ _ _ _<;>try contradiction)|(apply Ab;intro _ _ _))|refine Am ?_|fail));all_goals((conv=>whnf);try with_reducible apply At.mk)))
  refine wp_loop (fun z:Ajc=>[(2,.slice Yd.b Yd.n Yd.c),(3,.pointer (some ⟨h.next,0,none⟩)),(7,.slice G.b G.n G.c),(8,.pointer (some ⟨h2.next+6,0,none⟩)),(10,.pointer (some ⟨h3.next+20,0,none⟩)),(11,.int .i64 i),(12,.pointer (some ⟨X.next+9,0,none⟩)),(13,.int .i64 z.z),(14,.int .i64 z.i)])
   (fun z X2=>(∀s,s<X.next->X2.get s=X.get s)/\X2.get (X.next+9)=some (.cells [.int .i64 T.sp,.int .i64 T.st,.slice z.vo z.i 0] 85)/\SG (X.next+10) z.N X2 23 2 24 (T.w 0) z.i z.rr z.vv z.ro z.vo (fun j=>rowsOf (fun k=>(MY T G.f (Yd.f i) j k).cells) (T.w 0))/\z.N<=X2.next/\X.next+10<=z.N/\z.i<=T.n/\z.z=z.i*T.w 0) (fun z=>T.n - z.i) ⟨0,0,fun _=>0,fun _=>none,0,none,X.next+10⟩ ⟨rfl,rfl,rfl,rfl,rfl,rfl,rfl,rfl,rfl,trivial⟩ ⟨fun y hy=>Aw fun z hz=>Aa,Aa,SG.nil,by dsimp only;(exact Ah),by simp,by simp,by simp⟩ ?_
  clear g0 gx gt
  rintro⟨k,z,rr,vv,ro,vo,N⟩ g5 X2 ⟨qM,gb,S,nx2,hN,hk,hz⟩ K2 hK2
  dsimp only at gb S nx2 hN hk hz
  dsimp only at hK2⊢
  have Am1:z<=60:=by rw[hz];exact Nat.mul_le_mul (show k<=10 by omega) w2
  have M2:=M.of ⟨by omega,by omega,by omega⟩ qM Al
  have ok2:=M2.ok
  have g0:=M2.g0
  have gx:=M2.gx
  have gt:=M2.gt
  have R3:=M2.sm
  by_cases hkn:k<T.n
  ·have i1:=ok2.i
   have e1:=ok2.e
   have r1:=ok2.r
   have ii:=ok2.ri k Al
   have ir:=ok2.rr k Al
   (focus((try with_reducible apply wpC.to);(repeat'((conv=>whnf);first|refine Ak ?_|(apply Fork.mk<;>(intro _;try(exfalso;omega)))|((refine AH ?_);first|((first|apply Ae|apply Ac|apply Ad)<;>intro _ _ _ _<;>try contradiction)|(apply Ab;intro _ _ _))|refine Am ?_|fail));all_goals((conv=>whnf);try with_reducible apply At.mk)))
   refine wp_loop (fun z':Nat × Nat × Option Addr=>[(2,.slice Yd.b Yd.n Yd.c),(3,.pointer (some ⟨h.next,0,none⟩)),(7,.slice G.b G.n G.c),(8,.pointer (some ⟨h2.next+6,0,none⟩)),(10,.pointer (some ⟨h3.next+20,0,none⟩)),(11,.int .i64 i),(12,.pointer (some ⟨X.next+9,0,none⟩)),(13,.int .i64 (z+z'.1:Nat)),(14,.int .i64 k),(15,.slice z'.2.2 z'.1 0),(16,.int .i64 z'.1)])
    (fun z' X3=>(∀s,s<X2.next->X3.get s=X2.get s)/\X2.next<=X3.next/\GG z'.2.1 X3 23 2 z'.1 (rowsOf (fun q=>(MY T G.f (Yd.f i) k q).cells) z'.1) z'.2.2/\(0<z'.1->X2.next<=z'.2.1/\z'.2.1<X3.next)/\z'.1<=T.w 0) (fun z'=>T.w 0 - z'.1) (0,0,none) ⟨rfl,rfl,rfl,rfl,rfl,rfl,rfl,rfl,rfl,rfl,rfl,trivial⟩ ⟨fun y hy=>Aw fun z hz=>Aa,Ah,GG.nil,by simp,by simp⟩ ?_
   clear i1 e1 r1 ii
   rintro⟨q,r3,v⟩ g6 X3 ⟨WM,nx3,GG3,hr3,hq⟩ K3 hK3
   dsimp only at GG3 hr3 hq
   dsimp only at hK3⊢
   have M3:=M2.of ⟨by omega,by omega,by omega⟩ WM nx3
   have vD:=M3.ok
   have qJ:=M3.sm
   by_cases hqw:q<T.w 0
   ·have i1:=vD.i
    have e1:=vD.e
    have r1:=vD.r
    have ii:=vD.ri k Al
    have ir:=vD.rr k Al
    have hY3:=hY.same (qJ.mono hm) (Nat.le_refl _)
    have yi:=hY3.i
    have ye:=hY3.e
    have yr:=hY3.r
    have hB3:=hY3.ok i hin
    have be:=hB3.e
    have bi:=hB3.i
    have br:=hB3.r
    have ny:=Yg hYi (z+q)
    have gb2:=V.pl k q hkn hqw
    have gb3:=F2.at hkn hqw
    unfold Gk at gb2
    have eR:(MY T G.f (Yd.f i) k q).cells=[.int .i64 (max 0 (G.f k q - noise (Yd.f i) (z+q))),.int .i64 (min 500 (G.f k q+noise (Yd.f i) (z+q)))]:=by rw[hz];rfl
    by_cases hb0:(Yd.f i).n=0
    ·have en:noise (Yd.f i) (z+q)=0:=if_pos hb0
     rw[en]at eR
     (focus((try with_reducible apply wpC.to);(repeat'((conv=>whnf);first|refine Ak ?_|(apply Fork.mk<;>(intro _;try(exfalso;omega)))|((refine AH ?_);first|((first|apply Ae|apply Ac|apply Ad)<;>intro _ _ _ _<;>try contradiction)|(apply Ab;intro _ _ _))|refine Am ?_|fail));all_goals((conv=>whnf);try with_reducible apply At.mk)))
     apply EP (r:=r3) (n:=q) (m:=1) (cs:=rowsOf (fun q=>(MY T G.f (Yd.f i) k q).cells) q) (nc:=(MY T G.f (Yd.f i) k q).cells) (v:=v)
     case G=>exact GG3.frame fun h0=>Aw fun y hy=>by have:=hr3 h0;(exact Aa)
     case hsv=>exact rfl
     case C=>rw[eR];exact Cells.one Ez (by unfold AE.far;omega) rfl rfl
     case hm=>omega
     case hlo=>(exact Ah)
     case hlr=>exact fun h0=>by have:=hr3 h0;exact⟨Ah,Ah⟩
     case hsm=>omega
     intro v' r' row ha hb hc G'
     have hr':X2.next<=r':=by
      rcases Nat.eq_zero_or_pos q with h0|h0
      ·have:=ha h0;(exact Ah)
      ·have:=hb h0;have:=hr3 h0;(exact Ah)
     (focus((try with_reducible apply wpC.to);(repeat'((conv=>whnf);first|refine Ak ?_|(apply Fork.mk<;>(intro _;try(exfalso;omega)))|((refine AH ?_);first|((first|apply Ae|apply Ac|apply Ad)<;>intro _ _ _ _<;>try contradiction)|(apply Ab;intro _ _ _))|refine Am ?_|fail));all_goals((conv=>whnf);try with_reducible apply At.mk)))
     exact hK3 (q+1,r',v') _ _ ⟨rfl,rfl,rfl,rfl,rfl,rfl,rfl,AK rfl (by dsimp only;omega),rfl,rfl,AK rfl (by dsimp only;omega),trivial⟩ ⟨fun y hy=>(Aw fun z hz=>by(exact Aa):_=X3.get y).trans (WM y hy),Ah,G'.frame fun _=>Aw fun y hy=>Aa,fun _=>⟨hr',by dsimp only;(exact Ah)⟩,by dsimp only;omega⟩ (by dsimp only;omega)
    ·have en:noise (Yd.f i) (z+q)=(Yd.f i).f ((z+q)%(Yd.f i).n)%10:=if_neg hb0
     have hmod:=Nat.mod_lt (z+q) (show 0<(Yd.f i).n by omega)
     have bd:=hYi.bd _ hmod
     rw[en]at eR
     have:=Int.emod_nonneg ((Yd.f i).f ((z+q)%(Yd.f i).n)) (show(10:Int)≠0 by decide)
     (focus((try with_reducible apply wpC.to);(repeat'((conv=>whnf);first|refine Ak ?_|(apply Fork.mk<;>(intro _;try(exfalso;omega)))|((refine AH ?_);first|((first|apply Ae|apply Ac|apply Ad)<;>intro _ _ _ _<;>try contradiction)|(apply Ab;intro _ _ _))|refine Am ?_|fail));all_goals((conv=>whnf);try with_reducible apply At.mk)))
     rw[<-Int.natCast_emod]
     (focus((try with_reducible apply wpC.to);(repeat'((conv=>whnf);first|refine Ak ?_|(apply Fork.mk<;>(intro _;try(exfalso;omega)))|((refine AH ?_);first|((first|apply Ae|apply Ac|apply Ad)<;>intro _ _ _ _<;>try contradiction)|(apply Ab;intro _ _ _))|refine Am ?_|fail));all_goals((conv=>whnf);try with_reducible apply At.mk)))
     rw[Int.toNat_natCast]
     (focus((try with_reducible apply wpC.to);(repeat'((conv=>whnf);first|refine Ak ?_|(apply Fork.mk<;>(intro _;try(exfalso;omega)))|((refine AH ?_);first|((first|apply Ae|apply Ac|apply Ad)<;>intro _ _ _ _<;>try contradiction)|(apply Ab;intro _ _ _))|refine Am ?_|fail));all_goals((conv=>whnf);try with_reducible apply At.mk)))
     apply EP (r:=r3) (n:=q) (m:=1) (cs:=rowsOf (fun q=>(MY T G.f (Yd.f i) k q).cells) q) (nc:=(MY T G.f (Yd.f i) k q).cells) (v:=v)
     case G=>exact GG3.frame fun h0=>Aw fun y hy=>by have:=hr3 h0;(exact Aa)
     case hsv=>exact rfl
     case C=>rw[eR];exact Cells.one Ez (by unfold AE.far;omega) rfl rfl
     case hm=>omega
     case hlo=>(exact Ah)
     case hlr=>exact fun h0=>by have:=hr3 h0;exact⟨Ah,Ah⟩
     case hsm=>omega
     intro v' r' row ha hb hc G'
     have hr':X2.next<=r':=by
      rcases Nat.eq_zero_or_pos q with h0|h0
      ·have:=ha h0;(exact Ah)
      ·have:=hb h0;have:=hr3 h0;(exact Ah)
     (focus((try with_reducible apply wpC.to);(repeat'((conv=>whnf);first|refine Ak ?_|(apply Fork.mk<;>(intro _;try(exfalso;omega)))|((refine AH ?_);first|((first|apply Ae|apply Ac|apply Ad)<;>intro _ _ _ _<;>try contradiction)|(apply Ab;intro _ _ _))|refine Am ?_|fail));all_goals((conv=>whnf);try with_reducible apply At.mk)))
     exact hK3 (q+1,r',v') _ _ ⟨rfl,rfl,rfl,rfl,rfl,rfl,rfl,AK rfl (by dsimp only;omega),rfl,rfl,AK rfl (by dsimp only;omega),trivial⟩ ⟨fun y hy=>(Aw fun z hz=>by(exact Aa):_=X3.get y).trans (WM y hy),Ah,G'.frame fun _=>Aw fun y hy=>Aa,fun _=>⟨hr',by dsimp only;(exact Ah)⟩,by dsimp only;omega⟩ (by dsimp only;omega)
   ·obtain rfl:q=T.w 0:=by omega
    have hr3:=hr3 Al
    have S2:SG (X.next+10) N X3 23 2 24 (T.w 0) k rr vv ro vo (fun j=>rowsOf (fun k=>(MY T G.f (Yd.f i) j k).cells) (T.w 0)):=S.frame (Nat.le_refl _) fun x h1 h2=>WM x Al
    have so:=S2.org
    have i1:=vD.i
    have e1:=vD.e
    have r1:=vD.r
    have gb3:=(WM (X.next+9) Al).trans gb
    (focus((try with_reducible apply wpC.to);(repeat'((conv=>whnf);first|refine Ak ?_|(apply Fork.mk<;>(intro _;try(exfalso;omega)))|((refine AH ?_);first|((first|apply Ae|apply Ac|apply Ad)<;>intro _ _ _ _<;>try contradiction)|(apply Ab;intro _ _ _))|refine Am ?_|fail));all_goals((conv=>whnf);try with_reducible apply At.mk)))
    apply EP (r:=ro) (n:=k) (m:=1) (cs:=rowsOf (fun j=>[.slice (vv j) (T.w 0) 0]) k) (nc:=[.slice v (T.w 0) 0]) (v:=vo)
    case G=>exact S2.out.frame fun h0=>Aw fun y hy=>by have:=so h0;(exact Aa)
    case hsv=>exact rfl
    case C=>exact Cells.one Ez (by unfold AE.far;omega) rfl rfl
    case hm=>omega
    case hlo=>(exact Ah)
    case hlr=>exact fun h0=>by have:=so h0;exact⟨Ah,Ah⟩
    case hsm=>omega
    intro vo' ro' row ha hb hc G'
    have hro:X.next+10<=ro'/\ro'<X3.next+14/\(k=0->N<=ro'/\ro'≠r3):=by
     rcases Nat.eq_zero_or_pos k with h0|h0
     ·have:=ha h0;exact⟨Ah,Ah,fun _=>⟨Ah,Ah⟩⟩
     ·have:=hb h0;have:=(so h0).1;exact⟨Ah,Ah,fun h=>by omega⟩
    obtain⟨u1,u2,u3⟩:=hro
    have hz2:z+T.w 0=(k+1) *T.w 0:=by rw[hz,Nat.add_mul,Nat.one_mul]
    have OS:∀s,s<X.next->X3.get s=X.get s:=fun y hy=>(WM y Al).trans (qM y hy)
    (focus((try with_reducible apply wpC.to);(repeat'((conv=>whnf);first|refine Ak ?_|(apply Fork.mk<;>(intro _;try(exfalso;omega)))|((refine AH ?_);first|((first|apply Ae|apply Ac|apply Ad)<;>intro _ _ _ _<;>try contradiction)|(apply Ab;intro _ _ _))|refine Am ?_|fail));all_goals((conv=>whnf);try with_reducible apply At.mk)))
    refine hK2 ⟨k+1,z+T.w 0,fun j=>if j=k then r3 else rr j,fun j=>if j=k then v else vv j,ro',vo',X3.next+14⟩ _ _ ⟨rfl,rfl,rfl,rfl,rfl,rfl,rfl,rfl,AK rfl (by dsimp only;omega),trivial⟩ ⟨fun y hy=>(Aw fun z hz=>by(exact Aa):_=X3.get y).trans (OS y hy),Aa,?_,by dsimp only;(exact Ah),by dsimp only;omega,by dsimp only;omega,hz2⟩ (by dsimp only;omega)
    refine S2.next (N':=X3.next+14) (r:=r3) Al Al (fun y h3 h4 h5=>?_) (GG3.frame fun h0=>?_) ⟨by omega,by omega⟩ (G'.frame fun _=>Aw fun y hy=>Aa) ⟨hb,fun h0=>⟨(u3 h0).1,by omega,(u3 h0).2⟩⟩
    ·have hy:y≠ro':=by
      rcases Nat.eq_zero_or_pos k with h0|h0
      ·have:=u3 h0;omega
      ·have:=hb h0;have:=h5 h0;omega
     exact Aw fun z hz=>by(exact Aa)
    ·have hy:r3≠ro':=by
      rcases Nat.eq_zero_or_pos k with h0|h0
      ·have:=u3 h0;omega
      ·have:=hb h0;have:=(so h0).1;omega
     exact Aw fun z hz=>by(exact Aa)
  ·obtain rfl:k=T.n:=by omega
   clear hK2
   obtain⟨Q,hQ,qc,qsp,qst,qn,qw,qf⟩:=S.hull (sp:=T.sp) (st:=T.st) Al Al Al Al
   rw[<-qc]at gb
   have hQ':Q.Ok X2.next X2:=hQ.same (fun _ _=>rfl) nx2
   clear S
   have qcc:Q.cells=[.int .i64 Q.sp,.int .i64 Q.st,.slice Q.b Q.n Q.c]:=rfl
   rw[qcc]at gb
   (focus((try with_reducible apply wpC.to);(repeat'((conv=>whnf);first|refine Ak ?_|(apply Fork.mk<;>(intro _;try(exfalso;omega)))|((refine AH ?_);first|((first|apply Ae|apply Ac|apply Ad)<;>intro _ _ _ _<;>try contradiction)|(apply Ab;intro _ _ _))|refine Am ?_|fail));all_goals((conv=>whnf);try with_reducible apply At.mk)))
   apply Ar
   focus(exact Ao)
   focus(exact AQ)
   focus exact LD (T:=Q) (m:=X2.next) Ah (hQ'.same Aq (Nat.le_refl _))
   rintro _ X4 ⟨e4,rfl,he4⟩ q4 Ng
   by_cases W:Q.Valid
   rotate_left
   ·have he0:e4≠0:=fun h=>W (he4.1 h)
    (focus((try with_reducible apply wpC.to);(repeat'((conv=>whnf);first|refine Ak ?_|(apply Fork.mk<;>(intro _;try(exfalso;omega)))|((refine AH ?_);first|((first|apply Ae|apply Ac|apply Ad)<;>intro _ _ _ _<;>try contradiction)|(apply Ab;intro _ _ _))|refine Am ?_|fail));all_goals((conv=>whnf);try with_reducible apply At.mk)))
    (refine Au ?_)
    rfl
   obtain rfl:e4=0:=he4.2 W
   have OS:∀s,s<X2.next->X4.get s=X2.get s:=fun y hy=>(q4.same y Ah).trans (Aw fun z hz=>Aa)
   have nx4:X2.next<=X4.next:=by(exact Ah)
   clear q4 Ng he4
   have gb4:=(OS (X.next+9) Al).trans gb
   have hQ4:=hQ'.same (fun y hy=>OS y hy) (Nat.le_refl _)
   (focus((try with_reducible apply wpC.to);(repeat'((conv=>whnf);first|refine Ak ?_|(apply Fork.mk<;>(intro _;try(exfalso;omega)))|((refine AH ?_);first|((first|apply Ae|apply Ac|apply Ad)<;>intro _ _ _ _<;>try contradiction)|(apply Ab;intro _ _ _))|refine Am ?_|fail));all_goals((conv=>whnf);try with_reducible apply At.mk)))
   apply Ar
   focus(exact Ao)
   focus(exact AQ)
   focus exact gQ (T:=Q) (m:=X2.next) Ah (hQ4.same Aq (Nat.le_refl _)) W
   rintro _ X5 rfl q5 N4
   have jC:∀s,s<X4.next->X5.get s=X4.get s:=fun y hy=>(q5.same y Ah).trans (Aw fun z hz=>Aa)
   have nx5:X4.next<=X5.next:=by(exact Ah)
   have ya:=Xv V W hYi F2.inn qsp qst qn qw qf
   rw[<-eN]at ya
   have vl:=VE W (vF W)
   have vh:=VE W (vN W)
   have e1:fr (Q.sp*Q.st*Q.FQ.VF fun i k=>(Q.f i k).lo) 2=fr (Ky Q fun i k=>(Q.f i k).lo) 2:=rfl
   have e2:fr (Q.sp*Q.st*Q.FQ.VF fun i k=>(Q.f i k).hi) 2=fr (Ky Q fun i k=>(Q.f i k).hi) 2:=rfl
   rw[e1,e2]
   generalize (Ky Q fun i k=>(Q.f i k).lo)=NL at ya vl⊢
   generalize (Ky Q fun i k=>(Q.f i k).hi)=NU at ya vh⊢
   have f1:=Rn NL
   have f2:=Rn NU
   have f3:=bQ vl.1
   have f4:=bQ vh.1
   generalize fr NL 2=a at f1 f3⊢
   generalize fr NU 2=b at f2 f4⊢
   obtain⟨a1,a2⟩:=f1
   obtain⟨b1,b2⟩:=f2
   unfold oN
   have fE:∀s,s<X2.next->X5.get s=X2.get s:=fun y hy=>(jC y Al).trans (OS y hy)
   clear q5 N4
   have M5:=M2.of ⟨by omega,by omega,by omega⟩ fE Al
   have gt5:=M5.gt
   have gx5:=M5.gx
   (focus((try with_reducible apply wpC.to);(repeat'((conv=>whnf);first|refine Ak ?_|(apply Fork.mk<;>(intro _;try(exfalso;omega)))|((refine AH ?_);first|((first|apply Ae|apply Ac|apply Ad)<;>intro _ _ _ _<;>try contradiction)|(apply Ab;intro _ _ _))|refine Am ?_|fail));all_goals((conv=>whnf);try with_reducible apply At.mk)))
   rw[a2]
   (focus((try with_reducible apply wpC.to);(repeat'((conv=>whnf);first|refine Ak ?_|(apply Fork.mk<;>(intro _;try(exfalso;omega)))|((refine AH ?_);first|((first|apply Ae|apply Ac|apply Ad)<;>intro _ _ _ _<;>try contradiction)|(apply Ab;intro _ _ _))|refine Am ?_|fail));all_goals((conv=>whnf);try with_reducible apply At.mk)))
   rw[b2]
   (focus((try with_reducible apply wpC.to);(repeat'((conv=>whnf);first|refine Ak ?_|(apply Fork.mk<;>(intro _;try(exfalso;omega)))|((refine AH ?_);first|((first|apply Ae|apply Ac|apply Ad)<;>intro _ _ _ _<;>try contradiction)|(apply Ab;intro _ _ _))|refine Am ?_|fail));all_goals((conv=>whnf);try with_reducible apply At.mk)))
   have hr:=M.hr
   apply EP (r:=r) (n:=i) (m:=1) (cs:=rowsOf (fun j=>[.int .i64 j,.int .i64 0,.int .i64 (L j),.int .i64 (U j)]) i) (nc:=[.int .i64 i,.int .i64 0,.int .i64 NL,.int .i64 NU]) (v:=w)
   case G=>exact M5.G.frame fun h0=>Aw fun y hy=>by have:=hr h0;(exact Aa)
   case hsv=>exact rfl
   case C=>exact Cells.one Ez (by unfold AE.far;omega) rfl rfl
   case hm=>omega
   case hlo=>(exact Ah)
   case hlr=>exact fun h0=>by have:=hr h0;exact⟨Ah,Ah⟩
   case hsm=>omega
   intro w' r' row ha hb hc G'
   have hr':h3.next+20<r'/\r'<X5.next+51:=by
    rcases Nat.eq_zero_or_pos i with h0|h0
    ·have:=ha h0;exact⟨Ah,Ah⟩
    ·have:=hb h0;have:=hr h0;exact⟨Ah,Ah⟩
   obtain⟨u1,u2⟩:=hr'
   have E1:rowsOf (fun j=>[Value.int .i64 j,.int .i64 0,.int .i64 (if j=i then NL else L j),.int .i64 (if j=i then NU else U j)]) (i+1)=rowsOf (fun j=>[.int .i64 j,.int .i64 0,.int .i64 (L j),.int .i64 (U j)]) i++[.int .i64 i,.int .i64 0,.int .i64 NL,.int .i64 NU]:=by
    rw[rowsOf,if_pos rfl,if_pos rfl]
    congr 1
    exact DC i fun j hj=>by rw[if_neg Al,if_neg Al]
   have sm5:=M5.sm
   have g05:=M5.g0
   have iY:=M5.ok
   (focus((try with_reducible apply wpC.to);(repeat'((conv=>whnf);first|refine Ak ?_|(apply Fork.mk<;>(intro _;try(exfalso;omega)))|((refine AH ?_);first|((first|apply Ae|apply Ac|apply Ad)<;>intro _ _ _ _<;>try contradiction)|(apply Ab;intro _ _ _))|refine Am ?_|fail));all_goals((conv=>whnf);try with_reducible apply At.mk)))
   refine hK ⟨i+1,r',w',fun j=>if j=i then NL else L j,fun j=>if j=i then NU else U j⟩ _ _ ⟨rfl,rfl,rfl,rfl,rfl,AK rfl (by dsimp only;omega),trivial⟩ ⟨⟨Aq,Aa,iY.same (fun y hy=>Aw fun z hz=>Aa) (Nat.le_refl _),Aa,Aa,?_,fun _=>⟨by dsimp only;omega,by dsimp only;(exact Ah)⟩,Ah⟩,by dsimp only;omega,fun j hj=>?_⟩ (by dsimp only;omega)
   ·dsimp only
    rw[E1]
    exact G'.frame fun _=>Aw fun y hy=>by(exact Aa)
   ·dsimp only at hj⊢
    by_cases e:j=i
    ·rw[if_pos e,if_pos e];exact ya
    ·rw[if_neg e,if_neg e];exact hall j Al
 ·obtain rfl:i=Yd.n:=by omega
  clear hK
  have GT:=M.G
  have hr:=M.hr Al
  obtain⟨a,ha,hels,hab⟩:=GT.els (f:=fun j=>[.int .i64 j,.int .i64 0,.int .i64 (L j),.int .i64 (U j)]) fun _=>rfl
  obtain rfl:=ha Al
  have hab:=hab Al
  obtain⟨Z,hZ⟩:∃Z:Agr.Tab,Z=⟨Yd.n,1,0,0,Yd.n,fun j=>⟨j,0,L j,U j⟩,some a,a,0⟩:=⟨_,rfl⟩
  have kL:Z.Ok X.next X:=by
   rw[hZ]
   exact⟨fun _=>rfl,hels,fun _=>by dsimp only;omega,by dsimp only;omega⟩
  have zc:Z.cells=[.int .i64 Yd.n,.int .i64 1,.int .i64 0,.int .i64 0,.slice (some a) Yd.n 0]:=by rw[hZ];rfl
  have ok:=M.ok
  (focus((try with_reducible apply wpC.to);(repeat'((conv=>whnf);first|refine Ak ?_|(apply Fork.mk<;>(intro _;try(exfalso;omega)))|((refine AH ?_);first|((first|apply Ae|apply Ac|apply Ad)<;>intro _ _ _ _<;>try contradiction)|(apply Ab;intro _ _ _))|refine Am ?_|fail));all_goals((conv=>whnf);try with_reducible apply At.mk)))
  apply Ar
  focus(exact Ao)
  focus(exact AQ)
  focus exact(show AW Tryz.prog 9 _ _ [.agg ⟨[.int .i64 Yd.n,.int .i64 1,.int .i64 0,.int .i64 0,.slice (some a) Yd.n 0]⟩] _ by
         have:=Agr.I3 (T:=Z) (m:=X.next) (h:=(X.bump 4).bump 3) Ah (kL.same Aq (Nat.le_refl _))
         rw[zc]at this
         exact this)
  rintro _ X4 ⟨e4,rfl,he4⟩ q4 Ng
  by_cases he0:e4=0
  rotate_left
  ·(focus((try with_reducible apply wpC.to);(repeat'((conv=>whnf);first|refine Ak ?_|(apply Fork.mk<;>(intro _;try(exfalso;omega)))|((refine AH ?_);first|((first|apply Ae|apply Ac|apply Ad)<;>intro _ _ _ _<;>try contradiction)|(apply Ab;intro _ _ _))|refine Am ?_|fail));all_goals((conv=>whnf);try with_reducible apply At.mk)))
   all_goals((refine Au ?_);rfl)
  subst he0
  have zv:=he4.1 rfl
  have hok:=zv.ok
  clear he4
  have OS:∀s,s<X.next->X4.get s=X.get s:=fun y hy=>(q4.same y Ah).trans (Aw fun z hz=>Aa)
  have nx4:X.next<=X4.next:=by(exact Ah)
  clear q4 Ng
  have M4:=M.of ⟨by omega,by omega,by omega⟩ OS nx4
  have gt4:=M4.gt
  have gx4:=M4.gx
  have Ajh:=kL.same (fun y hy=>OS y hy) (Nat.le_refl _)
  have zone:AgreeS.One Z.toTable:=⟨hok,by rw[hZ];rfl,by rw[hZ];rfl,by rw[hZ];rfl⟩
  have hmem:∀y,y∈Z.toTable.tests↔∃j,j<Yd.n/\(⟨j,0,L j,U j⟩:AgreeS.Test)=y:=fun y=>by
   rw[hZ]
   simp[Agr.Tab.toTable,Agr.F1.toTest]
  have Agx:AgreeS.Fits Z.toTable (fun _=>0) fun _=>N0:=zone.fits.2 ⟨fun _ _=>rfl,fun y hy=>by
   obtain⟨j,hj,rfl⟩:=(hmem y).1 hy
   exact hall j hj⟩
  have ju:AgreeS.DR Z.toTable 0:=zone.tested ((hmem _).2 ⟨0,by omega,rfl⟩)
  have hse:Agr.sErr Z.toTable 0=0:=Agr.KD.2 ⟨⟨_,_,Agx⟩,ju⟩
  have sin:=AgreeS.FL hok Agx ju
  have elo:Agr.TX Z.toTable 0=AgreeS.Ey Z.toTable 0:=if_pos hse
  have ehi:Agr.UD Z.toTable 0=AgreeS.CZ Z.toTable 0:=if_pos hse
  have zh:Z.hulls=1:=by rw[hZ]
  have zt:Z.tanks=Yd.n:=by rw[hZ]
  have SW:∀hh:H,X.next<=hh.next->Same X.next X hh->AW Tryz.prog 19 hh.next hh [.agg ⟨[.int .i64 Yd.n,.int .i64 1,.int .i64 0,.int .i64 0,.slice (some a) Yd.n 0]⟩,.int .i64 0] (fun v _=>v= .tuple #[.agg ⟨[.int .i64 (Agr.TX Z.toTable 0),.int .i64 (Agr.UD Z.toTable 0)]⟩,.int .i64 0]):=fun hh h1 h2=>by
   have:=Agr.Oa (T:=Z) (m:=X.next) (z:=0) (h:=hh) h1 (kL.same h2 (Nat.le_refl _)) zv (by rw[zh];omega)
   rw[zc,show(0:Int).toNat=0 from rfl,hse]at this
   exact this
  have sm4:Same X.next X X4:=OS
  (focus((try with_reducible apply wpC.to);(repeat'((conv=>whnf);first|refine Ak ?_|(apply Fork.mk<;>(intro _;try(exfalso;omega)))|((refine AH ?_);first|((first|apply Ae|apply Ac|apply Ad)<;>intro _ _ _ _<;>try contradiction)|(apply Ab;intro _ _ _))|refine Am ?_|fail));all_goals((conv=>whnf);try with_reducible apply At.mk)))
  rw[hxn]
  (focus((try with_reducible apply wpC.to);(repeat'((conv=>whnf);first|refine Ak ?_|(apply Fork.mk<;>(intro _;try(exfalso;omega)))|((refine AH ?_);first|((first|apply Ae|apply Ac|apply Ad)<;>intro _ _ _ _<;>try contradiction)|(apply Ab;intro _ _ _))|refine Am ?_|fail));all_goals((conv=>whnf);try with_reducible apply At.mk)))
  apply Hr (a:=Yd.n) (b:=Yd.n)
  case hl=>exact rfl
  case hc=>exact rfl
  case hle=>omega
  case hsm=>omega
  (focus((try with_reducible apply wpC.to);(repeat'((conv=>whnf);first|refine Ak ?_|(apply Fork.mk<;>(intro _;try(exfalso;omega)))|((refine AH ?_);first|((first|apply Ae|apply Ac|apply Ad)<;>intro _ _ _ _<;>try contradiction)|(apply Ab;intro _ _ _))|refine Am ?_|fail));all_goals((conv=>whnf);try with_reducible apply At.mk)))
  apply Ar
  focus(exact Ao)
  focus(exact AQ)
  focus exact SW _ Ah Aq
  rintro _ X5 rfl q5 N4
  have nx5:X4.next+23<=X5.next:=by(exact Ah)
  have jC:∀s,s<X4.next->X5.get s=X4.get s:=fun y hy=>(q5.same y Ah).trans (Aw fun z hz=>Aa)
  have gA:X5.get (X4.next+9)=some (.cells (HX [.int .i64 0] Yd.n) 2):=(q5.same _ Ah).trans Aa
  have gC:X5.get (X4.next+11)=some (.cells [.int .i64 N0] 2):=(q5.same _ Ah).trans Aa
  have gU:X5.get (X4.next+13)=some (.cells [.slice (some ⟨X4.next+9,0,none⟩) Yd.n Yd.n,.slice (some ⟨X4.next+11,0,none⟩) 1 1] 39):=(q5.same _ Ah).trans Aa
  clear q5 N4
  obtain⟨t,et⟩:∃t:Agr.Er,t=⟨⟨Yd.n,fun _=>0,some ⟨X4.next+9,0,none⟩,⟨X4.next+9,0,none⟩,Yd.n⟩,⟨1,fun _=>N0,some ⟨X4.next+11,0,none⟩,⟨X4.next+11,0,none⟩,1⟩⟩:=⟨_,rfl⟩
  have etc:t.cells=[.slice (some ⟨X4.next+9,0,none⟩) Yd.n Yd.n,.slice (some ⟨X4.next+11,0,none⟩) 1 1]:=by rw[et];rfl
  have tok:t.Ok (X4.next+14) X5:=by
   rw[et]
   refine⟨⟨fun _=>rfl,fun j hj=>?_,fun _=>by dsimp only;omega,by dsimp only;omega⟩,⟨fun _=>rfl,fun j hj=>?_,fun _=>by dsimp only;omega,by dsimp only;omega⟩⟩
   ·exact Di (off:=0+j) gA (by rw[Nat.zero_add,Se Yd.n j (by simpa using hj)];simp[Nat.mod_one])
   ·obtain rfl:j=0:=by dsimp only at hj;omega
    exact Di (off:=0) gC rfl
  have tt:Agr.MU Z t:=by
   rw[et,hZ]
   exact⟨rfl,rfl,fun j _=>by dsimp only;omega,fun j _=>by dsimp only;omega,fun j _=>by dsimp only;omega,fun j hj=>by have:=hall j hj;dsimp only;omega⟩
  have CW:∀hh:H,X4.next+14<=hh.next->Same (X4.next+14) X5 hh->AW Tryz.prog 31 hh.next hh [.agg ⟨[.int .i64 Yd.n,.int .i64 1,.int .i64 0,.int .i64 0,.slice (some a) Yd.n 0]⟩,.agg ⟨[.slice (some ⟨X4.next+9,0,none⟩) Yd.n Yd.n,.slice (some ⟨X4.next+11,0,none⟩) 1 1]⟩] (fun v _=>v= .int .i64 0):=fun hh h1 h2=>by
   have:=Agr.W8 (T:=Z) (t:=t) (m:=X4.next+14) (h:=hh) h1 ((Ajh.same (fun y hy=>jC y Al) (Nat.le_refl _)).same (fun y hy=>h2 y Al) Al) zv (tok.same h2 (Nat.le_refl _))
   rw[zc,etc]at this
   obtain⟨v,h',⟨e,rfl,he⟩,aw⟩:=this
   obtain rfl:=he.2 tt
   exact⟨_,h',rfl,aw⟩
  have s5:Same (X4.next+14) X5 X5:=fun _ _=>rfl
  have gt5:=(jC (h3.next+20) Al).trans gt4
  have sma:=Agr.V1 hok 0
  rw[<-elo,<-ehi]at sin
  generalize Agr.TX Z.toTable 0=lo at*
  obtain⟨hi',Anv⟩:∃hi':Int,hi'=Agr.UD Z.toTable 0:=⟨_,rfl⟩
  rw[<-Anv]at sin sma ehi⊢
  (focus((try with_reducible apply wpC.to);(repeat'((conv=>whnf);first|refine Ak ?_|(apply Fork.mk<;>(intro _;try(exfalso;omega)))|((refine AH ?_);first|((first|apply Ae|apply Ac|apply Ad)<;>intro _ _ _ _<;>try contradiction)|(apply Ab;intro _ _ _))|refine Am ?_|fail));all_goals((conv=>whnf);try with_reducible apply At.mk)))
  apply Ar
  focus(exact Ao)
  focus(exact AQ)
  focus exact CW _ Ah Aq
  rintro _ X6 rfl q6 oa
  have nx6:X5.next<=X6.next:=by(exact Ah)
  have fE:∀s,s<X4.next->X6.get s=X5.get s:=fun y hy=>(q6.same y Ah).trans (Aw fun z hz=>Aa)
  have gt6:=(fE (h3.next+20) Al).trans gt5
  have gr6:X6.get (X4.next+20)=some (.cells [.int .i64 lo,.int .i64 hi'] 23):=(q6.same _ Ah).trans Aa
  clear q6 oa gA gC gU
  (focus((try with_reducible apply wpC.to);(repeat'((conv=>whnf);first|refine Ak ?_|(apply Fork.mk<;>(intro _;try(exfalso;omega)))|((refine AH ?_);first|((first|apply Ae|apply Ac|apply Ad)<;>intro _ _ _ _<;>try contradiction)|(apply Ab;intro _ _ _))|refine Am ?_|fail));all_goals((conv=>whnf);try with_reducible apply At.mk)))
  have smX:Same X.next X X6:=fun y hy=>(fE y Al).trans ((jC y Al).trans (OS y hy))
  apply V8 (r:=X6.next+3) (n:=0) (m:=Yd.n) (cs:=[]) (nc:=rowsOf (fun j=>[.int .i64 j,.int .i64 0,.int .i64 (L j),.int .i64 (U j)]) Yd.n) (w:=some ⟨X6.next+3,0,none⟩) (c:=0)
  case G=>exact .inl ⟨rfl,rfl,by unfold AE.far;omega,rfl,Aa⟩
  case hsv=>exact rfl
  case C=>exact Cells.els (a:=a) (hels.same (m:=X.next) Aq (fun _=>by omega)) (fun _=>rfl) (fun _=>by unfold AE.far;omega) (fun _=>rfl) (fun _=>rfl)
  case hm=>omega
  case hlo=>(exact Ah)
  case hlr=>omega
  case hsm=>omega
  intro w1 r1 X7 hr1 hf1 hx1 G1
  have hx1:X7.next=X6.next+19:=hx1
  have gf7:X7.get (X6.next+1)=some (.cells [.int .i64 Yd.n,.int .i64 1,.int .i64 0,.int .i64 0,.slice (some a) Yd.n 0] 31):=(hf1 _ Al).trans Aa
  have gr7:X7.get (X4.next+20)=some (.cells [.int .i64 lo,.int .i64 hi'] 23):=(hf1 _ Al).trans Aa
  rw[Nat.zero_add,List.nil_append]at G1
  clear hf1
  (focus((try with_reducible apply wpC.to);(repeat'((conv=>whnf);first|refine Ak ?_|(apply Fork.mk<;>(intro _;try(exfalso;omega)))|((refine AH ?_);first|((first|apply Ae|apply Ac|apply Ad)<;>intro _ _ _ _<;>try contradiction)|(apply Ab;intro _ _ _))|refine Am ?_|fail));all_goals((conv=>whnf);try with_reducible apply At.mk)))
  apply V8 (r:=r1) (n:=Yd.n) (m:=1) (cs:=rowsOf (fun j=>[.int .i64 j,.int .i64 0,.int .i64 (L j),.int .i64 (U j)]) Yd.n) (nc:=[.int .i64 0,.int .i64 0,.int .i64 (hi'+1),.int .i64 (hi'+1)]) (w:=w1) (c:=0)
  case G=>exact G1.frame Ep
  case hsv=>exact congrArg (fun z=>Value.slice w1 z 0) (Nat.zero_add Yd.n)
  case C=>exact Cells.one Ez (by unfold AE.far;omega) rfl rfl
  case hm=>omega
  case hlo=>(exact Ah)
  case hlr=>omega
  case hsm=>omega
  intro w2 r2 X8 hr2 hf2 hx2 G2
  have hx2:X8.next=X7.next:=hx2
  have gf8:X8.get (X6.next+1)=some (.cells [.int .i64 Yd.n,.int .i64 1,.int .i64 0,.int .i64 0,.slice (some a) Yd.n 0] 31):=(hf2 _ Al).trans Aa
  have E2:rowsOf (fun j=>if j=Yd.n then[Value.int .i64 0,.int .i64 0,.int .i64 (hi'+1),.int .i64 (hi'+1)]else[.int .i64 j,.int .i64 0,.int .i64 (L j),.int .i64 (U j)]) (Yd.n+1)=rowsOf (fun j=>[.int .i64 j,.int .i64 0,.int .i64 (L j),.int .i64 (U j)]) Yd.n++[.int .i64 0,.int .i64 0,.int .i64 (hi'+1),.int .i64 (hi'+1)]:=by
   rw[rowsOf,if_pos rfl]
   congr 1
   exact DC Yd.n fun j hj=>by rw[if_neg Al]
  rw[<-E2]at G2
  obtain⟨a2,rfl,ha2,uv⟩:=G2.els fun j=>by split<;>rfl
  have Aep:∀Y:H,Y.get r2=X8.get r2->JP Y a2 (Yd.n+1) 4 (fun j=>if j=Yd.n then[Value.int .i64 0,.int .i64 0,.int .i64 (hi'+1),.int .i64 (hi'+1)]else[.int .i64 j,.int .i64 0,.int .i64 (L j),.int .i64 (U j)]):=fun Y hY=>by
   obtain⟨a',e', -,h'⟩:=(G2.frame hY).els fun j=>by split<;>rfl
   cases e'
   exact h'
  clear hf2 G2 G1 uv
  obtain⟨Zf,vP⟩:∃Zf:Agr.Tab,Zf=⟨Yd.n,1,0,0,Yd.n+1,fun j=>if j=Yd.n then⟨0,0,hi'+1,hi'+1⟩else⟨j,0,L j,U j⟩,some a2,a2,0⟩:=⟨_,rfl⟩
  have zfc:Zf.cells=[.int .i64 Yd.n,.int .i64 1,.int .i64 0,.int .i64 0,.slice (some a2) (Yd.n+1) 0]:=by rw[vP];rfl
  have Acx:∀Y:H,Y.get r2=X8.get r2->Zf.Ok X8.next Y:=fun Y hY=>by
   rw[vP]
   refine⟨fun _=>rfl,fun j hj=>?_,fun _=>by dsimp only;omega,by dsimp only;omega⟩
   have:=Aep Y hY j hj
   rw[this]
   dsimp only
   by_cases e:j=Yd.n
   ·rw[if_pos e,if_pos e];rfl
   ·rw[if_neg e,if_neg e];rfl
  have TW:∀hh:H,X8.next<=hh.next->hh.get r2=X8.get r2->AW Tryz.prog 9 hh.next hh [.agg ⟨[.int .i64 Yd.n,.int .i64 1,.int .i64 0,.int .i64 0,.slice (some a2) (Yd.n+1) 0]⟩] (fun v _=>∃e:Int,v= .int .i64 e/\(e=0↔Zf.Valid)):=fun hh h1 h2=>by
   have:=Agr.I3 (T:=Zf) (m:=X8.next) (h:=hh) h1 (Acx hh h2)
   rw[zfc]at this
   exact this
  have hr2':X6.next+3<=r2/\r2<X8.next:=by omega
  (focus((try with_reducible apply wpC.to);(repeat'((conv=>whnf);first|refine Ak ?_|(apply Fork.mk<;>(intro _;try(exfalso;omega)))|((refine AH ?_);first|((first|apply Ae|apply Ac|apply Ad)<;>intro _ _ _ _<;>try contradiction)|(apply Ab;intro _ _ _))|refine Am ?_|fail));all_goals((conv=>whnf);try with_reducible apply At.mk)))
  apply Ar
  focus(exact Ao)
  focus(exact AQ)
  focus exact TW _ Ah Ep
  rintro _ X9 ⟨e9,rfl,he9⟩ q9 hn9
  by_cases he0:e9=0
  rotate_left
  ·(focus((try with_reducible apply wpC.to);(repeat'((conv=>whnf);first|refine Ak ?_|(apply Fork.mk<;>(intro _;try(exfalso;omega)))|((refine AH ?_);first|((first|apply Ae|apply Ac|apply Ad)<;>intro _ _ _ _<;>try contradiction)|(apply Ab;intro _ _ _))|refine Am ?_|fail));all_goals((conv=>whnf);try with_reducible apply At.mk)))
   all_goals((refine Au ?_);rfl)
  subst he0
  have zfv:=he9.1 rfl
  clear he9
  have gr9:X9.get r2=X8.get r2:=(q9.same _ Ah).trans Ep
  have gf9:X9.get (X6.next+1)=some (.cells [.int .i64 Yd.n,.int .i64 1,.int .i64 0,.int .i64 0,.slice (some a2) (Yd.n+1) 0] 31):=(q9.same _ Ah).trans Aa
  have nx9:X8.next<=X9.next:=by(exact Ah)
  clear q9 hn9
  have Acw:AgreeS.One Zf.toTable:=⟨zfv.ok,by rw[vP];rfl,by rw[vP];rfl,by rw[vP];rfl⟩
  have hmf:∀y,y∈Zf.toTable.tests↔∃j,j<Yd.n+1/\(Zf.f j).toTest=y:=fun y=>by
   rw[vP]
   simp[Agr.Tab.toTable]
  have hno:¬AgreeS.CV Zf.toTable:=uh zone Acw (fun y hy=>by
   obtain⟨j,hj,rfl⟩:=(hmem y).1 hy
   refine(hmf _).2 ⟨j,by omega,?_⟩
   rw[vP]
   dsimp only
   rw[if_neg Al]
   rfl) (y:=⟨0,0,hi'+1,hi'+1⟩) ((hmf _).2 ⟨Yd.n,by omega,by rw[vP];dsimp only;rw[if_pos rfl];rfl⟩) rfl ju ehi.symm
  have UW:∀hh:H,X8.next<=hh.next->hh.get r2=X8.get r2->AW Tryz.prog 10 hh.next hh [.agg ⟨[.int .i64 Yd.n,.int .i64 1,.int .i64 0,.int .i64 0,.slice (some a2) (Yd.n+1) 0]⟩] (fun v _=>v= .tuple #[.agg ⟨[.slice none 0 0,.slice none 0 0]⟩,.int .i64 20]):=fun hh h1 h2=>by
   obtain⟨v,h',⟨t',e1,e2⟩,aw⟩:=Agr.Us (T:=Zf) (m:=X8.next) (h:=hh) h1 (Acx hh h2) zfv
   have ht:Agr.QI Zf.toTable=20:=if_neg hno
   rw[if_neg (by rw[ht];decide)]at e2
   rw[ht,e2]at e1
   rw[zfc]at aw
   exact⟨v,h',e1,aw⟩
  (focus((try with_reducible apply wpC.to);(repeat'((conv=>whnf);first|refine Ak ?_|(apply Fork.mk<;>(intro _;try(exfalso;omega)))|((refine AH ?_);first|((first|apply Ae|apply Ac|apply Ad)<;>intro _ _ _ _<;>try contradiction)|(apply Ab;intro _ _ _))|refine Am ?_|fail));all_goals((conv=>whnf);try with_reducible apply At.mk)))
  apply Ar
  focus(exact Ao)
  focus(exact AQ)
  focus exact UW _ Ah ((Aw fun y hy=>Aa).trans gr9)
  rintro _ XA rfl qA hnA
  (focus((try with_reducible apply wpC.to);(repeat'((conv=>whnf);first|refine Ak ?_|(apply Fork.mk<;>(intro _;try(exfalso;omega)))|((refine AH ?_);first|((first|apply Ae|apply Ac|apply Ad)<;>intro _ _ _ _<;>try contradiction)|(apply Ab;intro _ _ _))|refine Am ?_|fail));all_goals((conv=>whnf);try with_reducible apply At.mk)))
  (refine Au ?_)
  rfl
end AE.Tryz

/- What comes in, for TopMeasuredHull: the shapes of the arguments' types, and the values that they hold. -/
namespace AE.T9InM
open Go Go.Proofs Go.Proofs.YtneenfjffejnoaaGreat AE AE.Tryz AE.Fair
set_option maxRecDepth 100000
set_option linter.unusedVariables false

def C4:Sh:=.cons (.int .i64) (.cons (.int .i64) .nil)
theorem SY:EO Tryz.prog (.int .i64) 2:=.int Tryz.underlying2
theorem GL:EO Tryz.prog C4 23:=.struct Tryz.underlying23 (by kernel_rfl) (.cons (by kernel_rfl) (by kernel_rfl) SY (.cons (by kernel_rfl) (by kernel_rfl) SY .nil))
theorem isRow:EO Tryz.prog (.slice C4) 24:=.slice Tryz.underlying24 (by kernel_rfl) (by decide) GL
def WE:Sh:=.cons (.int .i64) (.cons (.int .i64) (.cons (.slice (.slice C4)) .nil))
theorem yf:EO Tryz.prog (.slice (.slice C4)) 83:=.slice Tryz.underlying83 (by kernel_rfl) (by decide) isRow
theorem yh:EO Tryz.prog WE 85:=.struct Tryz.underlying85 (by kernel_rfl) (.cons (by kernel_rfl) (by kernel_rfl) SY (.cons (by kernel_rfl) (by kernel_rfl) SY (.cons (by kernel_rfl) (by kernel_rfl) yf .nil)))
theorem Amy:EO Tryz.prog (.int .u8) 5:=.int Tryz.underlying5
theorem vI:EO Tryz.prog (.slice (.int .u8)) 86:=.slice Tryz.underlying86 (by kernel_rfl) (by decide) Amy
theorem yd:EO Tryz.prog (.slice (.slice (.int .u8))) 87:=.slice Tryz.underlying87 (by kernel_rfl) (by decide) vI
theorem rg_of {h:H}{m:Nat}{cs:List Value}(k:Fits h m C4 cs):∃t:Rg,cs=t.cells:=by
 obtain⟨zs,rfl,l, -⟩:=HA (k:=.i64) (by decide) k
 match zs,l with
 |[a,b],_=>exact⟨⟨a,b⟩,rfl⟩
theorem aF {h:H}{m:Nat}{cs:List Value}(k:Fits h m (.slice C4) cs):∃M:Ug,cs=[.slice M.b M.n M.c]/\M.Ok m h:=by
 obtain⟨b,a,n,c,rfl,h1,h2,h3,h4,h5,h6⟩:=k
 have hz:∀i,i<n->∃z:Rg,h.Bu (BI a (i*2)) 2=some z.cells:=fun i hi=>by
  obtain⟨l,e1,k1⟩:=h6 i hi
  obtain⟨z,rfl⟩:=rg_of k1
  exact⟨z,e1⟩
 obtain⟨f,hf⟩:=GH (⟨0,0⟩:Rg) hz
 exact⟨⟨n,f,b,a,c⟩,rfl,h3,hf,fun h=>(h4 h).1,by
  show n<=_
  rcases h2 with h2|⟨-,h2⟩
  ·unfold maxLen at h2;omega
  ·omega⟩
theorem tN {h:H}{m:Nat}{cs:List Value}(k:Fits h m WE cs):∃T:C1,cs=T.cells/\T.Ok m h:=by
 obtain⟨c1,c2,rfl,⟨sp,rfl, -⟩,c3,c4,rfl,⟨st,rfl, -⟩,c5,c6,rfl,k1,k2⟩:=k
 have k2:c6=[]:=k2
 subst k2
 obtain⟨b,a,n,c,rfl,h1,h2,h3,h4,h5,h6⟩:=k1
 have hz:∀i,i<n->∃R:Ug,h.Bu (BI a (i*1)) 1=some [.slice R.b R.n R.c]/\R.Ok m h:=fun i hi=>by
  obtain⟨l,e1,kk⟩:=h6 i hi
  obtain⟨R,rfl,hR⟩:=aF kk
  exact⟨R,e1,hR⟩
 obtain⟨f,hf⟩:=GH (⟨0,fun _=>⟨0,0⟩,none,a,0⟩:Ug) hz
 refine⟨⟨sp,st,n,b,a,c,fun i=>(f i).n,fun i=>(f i).b,fun i=>(f i).a,fun i=>(f i).c,fun i k=>(f i).f k⟩,rfl,h3,fun i hi=>?_,fun h=>(h4 h).1,?_,fun i hi=>(hf i hi).2.e,fun i hi=>(hf i hi).2.i,fun i hi=>(hf i hi).2.r,fun i hi=>(hf i hi).2.l⟩
 ·have:=(hf i hi).1
  rw[Nat.mul_one]at this
  exact this
 ·show n<=_
  rcases h2 with h2|⟨-,h2⟩
  ·unfold maxLen at h2;omega
  ·omega
theorem Ac2 {h:H}{m:Nat}{v:Value}(k:Fits h m (.int .u8) [v]):∃n:Int,v= .int .u8 n/\0<=n/\n<256:=by
 obtain⟨n,e,h1,h2⟩:=k
 simp only[IntKind.min,IntKind.max,IntKind.signed,IntKind.bits]at h1 h2
 simp at h1 h2 e
 exact⟨n,e,h1,by omega⟩
theorem lG {h:H}{m:Nat}{cs:List Value}(k:Fits h m (.slice (.int .u8)) cs):∃T:ZN,cs=[.slice T.b T.n T.c]/\T.Ok m h:=by
 obtain⟨b,a,n,c,rfl,h1,h2,h3,h4,h5,h6⟩:=k
 have hz:∀i,i<n->∃z:Int,h.Bu (BI a i) 1=some [.int .u8 z]/\0<=z/\z<=255:=fun i hi=>by
  obtain⟨l,e1,kk⟩:=h6 i hi
  have kk':=kk
  obtain⟨z,rfl, -⟩:=kk'
  obtain⟨y,ey,b1,b2⟩:=Ac2 kk
  cases ey
  exact⟨z,by simpa[Sh.size]using e1,b1,by omega⟩
 obtain⟨f,hf⟩:=GH (0:Int) hz
 exact⟨⟨n,f,b,a,c⟩,rfl,h3,fun i hi=>(hf i hi).1,fun h=>(h4 h).1,by
  show n<=_
  rcases h2 with h2|⟨-,h2⟩
  ·unfold maxLen at h2;omega
  ·omega,fun i hi=>(hf i hi).2⟩
theorem rD {h:H}{m:Nat}{cs:List Value}(k:Fits h m (.slice (.slice (.int .u8))) cs):∃T:kG,cs=[.slice T.b T.n T.c]/\T.Ok m h:=by
 obtain⟨b,a,n,c,rfl,h1,h2,h3,h4,h5,h6⟩:=k
 have hz:∀i,i<n->∃R:ZN,h.Bu (BI a (i*1)) 1=some [.slice R.b R.n R.c]/\R.Ok m h:=fun i hi=>by
  obtain⟨l,e1,kk⟩:=h6 i hi
  obtain⟨R,rfl,hR⟩:=lG kk
  exact⟨R,e1,hR⟩
 obtain⟨f,hf⟩:=GH (⟨0,fun _=>0,none,a,0⟩:ZN) hz
 refine⟨⟨n,f,b,a,c⟩,rfl,h3,fun i hi=>?_,fun h=>(h4 h).1,?_,fun i hi=>(hf i hi).2⟩
 ·have:=(hf i hi).1
  rw[Nat.mul_one]at this
  exact this
 ·show n<=_
  rcases h2 with h2|⟨-,h2⟩
  ·unfold maxLen at h2;omega
  ·omega
end AE.T9InM
