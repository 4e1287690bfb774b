/- Walks and plain laws: T9Fa, T9FitF. -/
import Derived.Test.YtneenfjffejnoaaGreatJoin85
import Derived.Test.YtneenfjffejnoaaGreatJoin55
import Derived.Test.YtneenfjffejnoaaGreatT9Sm
import Derived.Test.YtneenfjffejnoaaGreatT9W
import Derived.Test.YtneenfjffejnoaaGreatRows
import Derived.Test.YtneenfjffejnoaaGreatAEthree
import Derived.KernelRfl
set_option linter.unusedVariables false
set_option linter.unusedSimpArgs false
set_option linter.unusedSectionVars false

/- Walk of TopFairTanks. -/
namespace AE.Tryz
open Go AE Go.Proofs AE.Fair
set_option maxRecDepth 100000
set_option linter.unusedVariables false

theorem Agr.VI {T:Agr.Tab}{t:Agr.Er}(k:Agr.MU T t):AgreeS.Fits T.toTable t.A.f t.C.f:=by
 have h1:=k.an
 refine⟨fun i hi=>k.b i (by simp only[Agr.Tab.toTable]at hi;omega),fun y hy=>?_⟩
 simp only[Agr.Tab.toTable,List.mem_map,List.mem_range]at hy
 obtain⟨i,hi,rfl⟩:=hy
 exact k.t i hi
theorem Agr.l9 (T:AgreeS.Table) (j:Nat):Agr.sErr T j=0\/Agr.sErr T j=5\/Agr.sErr T j=20:=by
 unfold Agr.sErr
 by_cases ha:AgreeS.CV T<;>by_cases ht:AgreeS.DR T j<;>simp[ha,ht]
theorem Agr.s_in {T:AgreeS.Table}(h:T.Ok) {j:Nat}(he:Agr.sErr T j=0) {b x:Nat->Int}(k:AgreeS.Fits T b x):Agr.TX T j<=x j/\x j<=Agr.UD T j:=by
 unfold Agr.TX Agr.UD
 rw[if_pos he,if_pos he]
 exact AgreeS.FL h k (Agr.KD.1 he).2
theorem Agr.Ajq {T:AgreeS.Table}(h:T.Ok) {j:Nat}(he:Agr.sErr T j=0):Agr.TX T j<=Agr.UD T j:=by
 obtain⟨⟨b,x,k⟩, -⟩:=Agr.KD.1 he
 have:=Agr.s_in h he k
 omega
noncomputable def vR (T:Agr.Tab) (i:Nat):Rg:=⟨Agr.TX T.toTable i,Agr.UD T.toTable i⟩

set_option maxHeartbeats 4000000 in
theorem Y4 {h:H}{T:Agr.Tab}{X:Agr.Er}{m:Nat}{turn:Int}(hm:m<=h.next) (hT:T.Ok m h) (hX:X.Ok m h) (ht:0<=turn/\turn<4294967296):
 AW Tryz.prog 5 h.next h [.agg ⟨T.cells⟩,.agg ⟨X.cells⟩,.int .u32 turn] (fun v _=>v= .bool true):=by
 obtain⟨te,ti,tr,tl⟩:=hT
 have hT:T.Ok m h:=⟨te,ti,tr,tl⟩
 obtain⟨⟨ae,ai,ar,al⟩,⟨ce,ci,cr,cl⟩⟩:=hX
 have hX:X.Ok m h:=⟨⟨ae,ai,ar,al⟩,⟨ce,ci,cr,cl⟩⟩
 refine Anm.call rfl (Nat.le_refl _) ?_
 unfold a5 Agr.Tab.cells Agr.Er.cells Agr.G9.val
 by_cases Aoo:T.n<=24
 rotate_left
 ·(focus((try with_reducible apply wpC.to);(repeat'((conv=>whnf);first|refine Ak ?_|(apply Fork.mk<;>(intro _;try(exfalso;omega)))|((refine AH ?_);first|((first|apply Ae|apply Ac|apply Ad)<;>intro _ _ _ _<;>try contradiction)|(apply Ab;intro _ _ _))|refine Ax ?_|fail));all_goals((conv=>whnf);try with_reducible apply At.mk)))
  all_goals((refine Au ?_);rfl)
 (focus((try with_reducible apply wpC.to);(repeat'((conv=>whnf);first|refine Ak ?_|(apply Fork.mk<;>(intro _;try(exfalso;omega)))|((refine AH ?_);first|((first|apply Ae|apply Ac|apply Ad)<;>intro _ _ _ _<;>try contradiction)|(apply Ab;intro _ _ _))|refine Ax ?_|fail));all_goals((conv=>whnf);try with_reducible apply At.mk)))
 apply Ar
 focus(exact Ao)
 focus(exact AQ)
 focus exact Agr.I3 (T:=T) (m:=m) Ah (hT.same Aq (Nat.le_refl _))
 rintro _ h1 ⟨e,rfl,he⟩ q1 hn1
 by_cases he0:e=0
 rotate_left
 ·(focus((try with_reducible apply wpC.to);(repeat'((conv=>whnf);first|refine Ak ?_|(apply Fork.mk<;>(intro _;try(exfalso;omega)))|((refine AH ?_);first|((first|apply Ae|apply Ac|apply Ad)<;>intro _ _ _ _<;>try contradiction)|(apply Ab;intro _ _ _))|refine Ax ?_|fail));all_goals((conv=>whnf);try with_reducible apply At.mk)))
  all_goals((refine Au ?_);rfl)
 subst he0
 have hv:=he.1 rfl
 have hok:=hv.ok
 have hh1:=hv.h1
 have hh2:=hv.h2
 clear he
 by_cases yp:X.A.n<=10/\X.C.n<=10
 rotate_left
 ·(focus((try with_reducible apply wpC.to);(repeat'((conv=>whnf);first|refine Ak ?_|(apply Fork.mk<;>(intro _;try(exfalso;omega)))|((refine AH ?_);first|((first|apply Ae|apply Ac|apply Ad)<;>intro _ _ _ _<;>try contradiction)|(apply Ab;intro _ _ _))|refine Ax ?_|fail));all_goals((conv=>whnf);try with_reducible apply At.mk)))
  all_goals((refine Au ?_);rfl)
 have s1:Same h.next h h1:=fun x hx=>(q1.same x Ah).trans Ep
 have g1:h1.get h.next=some (.cells T.cells 31):=(q1.same _ Ah).trans (by unfold Agr.Tab.cells;(exact Aa))
 have g1':h1.get (h.next+1)=some (.cells X.cells 39):=(q1.same _ Ah).trans (by unfold Agr.Er.cells Agr.G9.val;(exact Aa))
 have hn1':h.next+3<=h1.next:=by(exact Ah)
 clear q1 hn1
 obtain⟨t,et⟩:∃t,t=turn%1000001:=⟨_,rfl⟩
 have htb:0<=t/\t<=1000000:=by omega
 obtain⟨n,hn⟩:∃n:Nat,T.hulls=n:=⟨T.hulls.toNat,by omega⟩
 unfold Agr.Tab.cells at g1
 unfold Agr.Er.cells Agr.G9.val at g1'
 (focus((try with_reducible apply wpC.to);(repeat'((conv=>whnf);first|refine Ak ?_|(apply Fork.mk<;>(intro _;try(exfalso;omega)))|((refine AH ?_);first|((first|apply Ae|apply Ac|apply Ad)<;>intro _ _ _ _<;>try contradiction)|(apply Ab;intro _ _ _))|refine Ax ?_|fail));all_goals((conv=>whnf);try with_reducible apply At.mk)))
 rw[<-et]
 refine wp_loop (fun x:Nat × Nat × Option Addr=>[(3,.pointer (some ⟨h.next,0,none⟩)),(4,.pointer (some ⟨h.next+1,0,none⟩)),(7,.pointer (some ⟨h1.next+4,0,none⟩)),(8,.int .i64 x.1)])
  (fun x h2=>Same h.next h h2/\h2.get h.next=some (.cells T.cells 31)/\h2.get (h.next+1)=some (.cells X.cells 39)/\h2.get (h1.next+4)=some (.cells [.slice x.2.2 x.1 0,.int .i64 t] 77)/\GG x.2.1 h2 23 2 x.1 (rowsOf (fun i=>(vR T i).cells) x.1) x.2.2/\(0<x.1->h1.next+5<=x.2.1/\x.2.1<h2.next)/\h1.next+7<=h2.next/\x.1<=n/\∀j,j<x.1->Agr.sErr T.toTable j=0) (fun x=>n - x.1) (0,0,none)
  ⟨rfl,rfl,rfl,rfl,trivial⟩ ⟨Aq,by unfold Agr.Tab.cells;(exact Aa),by unfold Agr.Er.cells Agr.G9.val;(exact Aa),Aa,.inl ⟨rfl,rfl,rfl⟩,fun h=>absurd h (by simp),Ah,by simp,fun j hj=>absurd hj (by simp)⟩ ?_
 clear g1 g1' s1
 rintro⟨s,r,w⟩ g h2 ⟨s2,g2,g2',g2s,G,hr,hn2,hs,hall⟩ K hK
 dsimp only at g2s G hr hs hall
 dsimp only
 unfold Agr.Tab.cells at g2
 unfold Agr.Er.cells Agr.G9.val at g2'
 by_cases hsn:s<n
 ·(focus((try with_reducible apply wpC.to);(repeat'((conv=>whnf);first|refine Ak ?_|(apply Fork.mk<;>(intro _;try(exfalso;omega)))|((refine AH ?_);first|((first|apply Ae|apply Ac|apply Ad)<;>intro _ _ _ _<;>try contradiction)|(apply Ab;intro _ _ _))|refine Ax ?_|fail));all_goals((conv=>whnf);try with_reducible apply At.mk)))
  apply Ar
  focus(exact Ao)
  focus(exact AQ)
  focus exact Agr.Oa (T:=T) (m:=m) (z:=s) Ah (hT.same Aq (Nat.le_refl _)) hv Al
  intro v3 h3 hv3 q3 Lj
  rw[show((s:Int)).toNat=s from rfl]at hv3
  have sm:=Agr.V1 hok s
  by_cases hes:Agr.sErr T.toTable s=0
  rotate_left
  ·have ev:=Agr.l9 T.toTable s
   generalize Agr.sErr T.toTable s=e3 at hv3 hes ev
   subst hv3
   rcases ev with ev|rfl|rfl
   ·exact absurd ev hes
   ·(focus((try with_reducible apply wpC.to);(repeat'((conv=>whnf);first|refine Ak ?_|(apply Fork.mk<;>(intro _;try(exfalso;omega)))|((refine AH ?_);first|((first|apply Ae|apply Ac|apply Ad)<;>intro _ _ _ _<;>try contradiction)|(apply Ab;intro _ _ _))|refine Ax ?_|fail));all_goals((conv=>whnf);try with_reducible apply At.mk)))
    (refine Au ?_)
    rfl
   ·(focus((try with_reducible apply wpC.to);(repeat'((conv=>whnf);first|refine Ak ?_|(apply Fork.mk<;>(intro _;try(exfalso;omega)))|((refine AH ?_);first|((first|apply Ae|apply Ac|apply Ad)<;>intro _ _ _ _<;>try contradiction)|(apply Ab;intro _ _ _))|refine Ax ?_|fail));all_goals((conv=>whnf);try with_reducible apply At.mk)))
    (refine Au ?_)
    rfl
  have sle:=Agr.Ajq hok hes
  rw[hes]at hv3
  subst hv3
  have bI:h2.next<=h3.next:=by(exact Ah)
  have hfr:∀y,y<h2.next->h3.get y=h2.get y:=fun y hy=>(q3.same y Ah).trans (Aw fun z hz=>Aa)
  (focus((try with_reducible apply wpC.to);(repeat'((conv=>whnf);first|refine Ak ?_|(apply Fork.mk<;>(intro _;try(exfalso;omega)))|((refine AH ?_);first|((first|apply Ae|apply Ac|apply Ad)<;>intro _ _ _ _<;>try contradiction)|(apply Ab;intro _ _ _))|refine Ax ?_|fail));all_goals((conv=>whnf);try with_reducible apply At.mk)))
  apply EP (r:=r) (n:=s) (m:=1) (cs:=rowsOf (fun i=>(vR T i).cells) s) (nc:=(vR T s).cells) (v:=w)
  case G=>exact G.frame fun h0=>(Aw fun y hy=>by have:=hr h0;(exact Aa)).trans (hfr r (hr h0).2)
  case hsv=>exact rfl
  case C=>exact Cells.one Ez (by unfold AE.far;omega) rfl rfl
  case hm=>omega
  case hlo=>(exact Ah)
  case hlr=>exact fun h0=>by have:=hr h0;exact⟨Ah,Ah⟩
  case hsm=>omega
  intro w' r' row ha hb hc G'
  have hr':h1.next+5<=r'/\h2.next+9<=h3.next/\(0<s->r'=r)/\(s=0->h3.next<=r'):=by
   rcases Nat.eq_zero_or_pos s with h0|h0
   ·have:=ha h0;exact⟨Ah,Ah,fun h=>by omega,fun _=>Ah⟩
   ·have:=hb h0;have:=hr h0;exact⟨Ah,Ah,fun _=>by omega,fun h=>by omega⟩
  obtain⟨x1,x2,x3,x4⟩:=hr'
  have E1:rowsOf (fun i=>(vR T i).cells) (s+1)=rowsOf (fun i=>(vR T i).cells) s++(vR T s).cells:=rfl
  (focus((try with_reducible apply wpC.to);(repeat'((conv=>whnf);first|refine Ak ?_|(apply Fork.mk<;>(intro _;try(exfalso;omega)))|((refine AH ?_);first|((first|apply Ae|apply Ac|apply Ad)<;>intro _ _ _ _<;>try contradiction)|(apply Ab;intro _ _ _))|refine Ax ?_|fail));all_goals((conv=>whnf);try with_reducible apply At.mk)))
  refine hK (s+1,r',w') _ _ ⟨rfl,rfl,rfl,AK rfl (by dsimp only;omega),trivial⟩ ⟨Aq,by unfold Agr.Tab.cells;(exact Aa),by unfold Agr.Er.cells Agr.G9.val;(exact Aa),Aa,?_,fun _=>⟨by dsimp only;omega,by dsimp only;(exact Ah)⟩,Ah,by dsimp only;omega,fun j hj=>?_⟩ (by dsimp only;omega)
  ·dsimp only
   rw[E1]
   exact G'.frame fun _=>Aw fun y hy=>by(exact Aa)
  ·dsimp only at hj
   by_cases e:j=s
   ·subst e;exact hes
   ·exact hall j Al
 have es:s=n:=by omega
 subst es
 clear hK
 obtain⟨a1,hw1,e1,b1⟩:=G.els (f:=fun i=>(vR T i).cells) fun _=>rfl
 have hr:=hr Al
 obtain rfl:=hw1 Al
 have b1:=b1 Al
 obtain⟨Z,hZ⟩:∃Z:Cx,Z=⟨⟨s,vR T,some a1,a1,0⟩,t⟩:=⟨_,rfl⟩
 have kZ:Z.r.Ok h2.next h2:=by
  subst hZ
  exact⟨fun _=>rfl,e1,fun _=>by dsimp only;omega,by dsimp only;omega⟩
 have zn:Z.r.n=s:=by rw[hZ]
 have zt:Z.t=t:=by rw[hZ]
 have zb:Z.r.b=some a1:=by rw[hZ]
 have zc:Z.r.c=0:=by rw[hZ]
 have zlo:∀p,(Z.r.f p).lo=Agr.TX T.toTable p:=fun p=>by rw[hZ];rfl
 have zhi:∀p,(Z.r.f p).hi=Agr.UD T.toTable p:=fun p=>by rw[hZ];rfl
 have zcl:Z.cells=[.slice (some a1) s 0,.int .i64 t]:=by rw[hZ];rfl
 clear G
 have s2':Same h2.next h2 h2:=fun _ _=>rfl
 (focus((try with_reducible apply wpC.to);(repeat'((conv=>whnf);first|refine Ak ?_|(apply Fork.mk<;>(intro _;try(exfalso;omega)))|((refine AH ?_);first|((first|apply Ae|apply Ac|apply Ad)<;>intro _ _ _ _<;>try contradiction)|(apply Ab;intro _ _ _))|refine Ax ?_|fail));all_goals((conv=>whnf);try with_reducible apply At.mk)))
 apply Ar
 focus(exact Ao)
 focus(exact AQ)
 focus exact(show AW Tryz.prog 24 _ _ [.agg ⟨[.slice (some a1) s 0,.int .i64 t]⟩] _ by
        have:=QM (S:=Z) (m:=h2.next) (h:=(h2.bump 4).bump 3) Ah (kZ.same Aq (Nat.le_refl _))
        rw[zcl]at this
        exact this)
 intro v3 h3 hv3 q3 Lj
 by_cases hze:F9 Z=0
 rotate_left
 ·generalize F9 Z=e3 at hv3 hze
  subst hv3
  (focus((try with_reducible apply wpC.to);(repeat'((conv=>whnf);first|refine Ak ?_|(apply Fork.mk<;>(intro _;try(exfalso;omega)))|((refine AH ?_);first|((first|apply Ae|apply Ac|apply Ad)<;>intro _ _ _ _<;>try contradiction)|(apply Ab;intro _ _ _))|refine Ax ?_|fail));all_goals((conv=>whnf);try with_reducible apply At.mk)))
  (refine Au ?_)
  rfl
 rw[hze]at hv3
 subst hv3
 have fit:=Pv hze
 have s3:Same h2.next h2 h3:=fun y hy=>(q3.same y Ah).trans (Aw fun z hz=>Aa)
 have g3:=(s3 h.next Al).trans g2
 have g3':=(s3 (h.next+1) Al).trans g2'
 have g3s:=(s3 (h1.next+4) Al).trans g2s
 have bI:h2.next<=h3.next:=by(exact Ah)
 clear q3 Lj
 (focus((try with_reducible apply wpC.to);(repeat'((conv=>whnf);first|refine Ak ?_|(apply Fork.mk<;>(intro _;try(exfalso;omega)))|((refine AH ?_);first|((first|apply Ae|apply Ac|apply Ad)<;>intro _ _ _ _<;>try contradiction)|(apply Ab;intro _ _ _))|refine Ax ?_|fail));all_goals((conv=>whnf);try with_reducible apply At.mk)))
 apply Ar
 focus(exact Ao)
 focus(exact AQ)
 focus exact(show AW Tryz.prog 25 _ _ [.agg ⟨[.slice (some a1) s 0,.int .i64 t]⟩] _ by
        have:=jH (S:=Z) (m:=h2.next) (h:=h3.bump 9) Ah (kZ.same Aq (Nat.le_refl _)) hze
        rw[zcl,zn]at this
        exact this)
 rintro _ h4 ⟨r4,w4,c4,x4,M4,rfl,L4,f1,f2,FF⟩ q4 Ng
 obtain⟨ax,rfl,bx,jx⟩:=L4.ints
 have s4:Same h2.next h2 h4:=fun y hy=>(q4.same y Ah).trans ((Aw fun z hz=>Aa).trans (s3 y hy))
 have t4:Same h.next h h4:=fun y hy=>(s4 y Al).trans (s2 y hy)
 have g4:=(s4 h.next Al).trans g2
 have g4':=(s4 (h.next+1) Al).trans g2'
 have g4s:=(s4 (h1.next+4) Al).trans g2s
 have tO:h2.next<=h4.next:=by(exact Ah)
 clear q4 Ng L4 jx bx
 (focus((try with_reducible apply wpC.to);(repeat'((conv=>whnf);first|refine Ak ?_|(apply Fork.mk<;>(intro _;try(exfalso;omega)))|((refine AH ?_);first|((first|apply Ae|apply Ac|apply Ad)<;>intro _ _ _ _<;>try contradiction)|(apply Ab;intro _ _ _))|refine Ax ?_|fail));all_goals((conv=>whnf);try with_reducible apply At.mk)))
 apply Ar
 focus(exact Ao)
 focus(exact AQ)
 focus exact Agr.Sg (T:=T) (t:=X) (m:=m) Ah (hT.same (fun y hy=>(Aw fun z hz=>Aa).trans (t4 y Al)) (Nat.le_refl _)) hv (hX.same (fun y hy=>(Aw fun z hz=>Aa).trans (t4 y Al)) (Nat.le_refl _))
 rintro _ h5 ⟨e5,rfl,he5⟩ q5 N4
 by_cases hx:Agr.MU T X
 rotate_left
 ·have hne:e5≠0:=fun h=>hx (he5.1 h)
  (focus((try with_reducible apply wpC.to);(repeat'((conv=>whnf);first|refine Ak ?_|(apply Fork.mk<;>(intro _;try(exfalso;omega)))|((refine AH ?_);first|((first|apply Ae|apply Ac|apply Ad)<;>intro _ _ _ _<;>try contradiction)|(apply Ab;intro _ _ _))|refine Ax ?_|fail));all_goals((conv=>whnf);try with_reducible apply At.mk)))
  (refine Au ?_)
  rfl
 obtain rfl:=he5.2 hx
 have hcn:=hx.cn
 have hin:∀p,p<s->Agr.TX T.toTable p<=X.C.f p/\X.C.f p<=Agr.UD T.toTable p:=fun p hp=>Agr.s_in hok (hall p hp) (Agr.VI hx)
 obtain⟨Y,hY⟩:∃Y:G9,Y=⟨X.C.n,X.C.f,X.C.b,X.C.a,X.C.c⟩:=⟨_,rfl⟩
 have kY:Y.Ok m h:=by
  subst hY
  exact⟨ce,ci,cr,cl⟩
 have s5:Same h2.next h2 h5:=fun y hy=>(q5.same y Ah).trans ((Aw fun z hz=>Aa).trans (s4 y hy))
 have t5:Same h.next h h5:=fun y hy=>(s5 y Al).trans (s2 y hy)
 have g5:=(s5 h.next Al).trans g2
 have g5':=(s5 (h.next+1) Al).trans g2'
 have g5s:=(s5 (h1.next+4) Al).trans g2s
 have Aem:h2.next<=h5.next:=by(exact Ah)
 clear q5 N4
 (focus((try with_reducible apply wpC.to);(repeat'((conv=>whnf);first|refine Ak ?_|(apply Fork.mk<;>(intro _;try(exfalso;omega)))|((refine AH ?_);first|((first|apply Ae|apply Ac|apply Ad)<;>intro _ _ _ _<;>try contradiction)|(apply Ab;intro _ _ _))|refine Ax ?_|fail));all_goals((conv=>whnf);try with_reducible apply At.mk)))
 apply Ar
 focus(exact Ao)
 focus(exact AQ)
 focus exact(show AW Tryz.prog 26 _ _ [.agg ⟨[.slice (some a1) s 0,.int .i64 t]⟩,.slice X.C.b X.C.n X.C.c] _ by
        have:=uJ (S:=Z) (T:=Y) (m:=h2.next) (m':=m) (h:=h5.bump 9) Ah Ah (kZ.same (fun y hy=>(Aw fun z hz=>Aa).trans (s5 y Al)) (Nat.le_refl _)) (kY.same (fun y hy=>(Aw fun z hz=>Aa).trans (t5 y Al)) (Nat.le_refl _)) hze (by rw[hY,zn];dsimp only;omega) (fun p hp=>by
         have:=hin p Al
         rw[zlo,zhi,hY]
         exact this)
        rw[zcl,hY]at this
        dsimp only at this
        exact this)
 rintro _ h6 rfl q6 oa
 have hM:M4<=Fair.Ju X.C.f X.C.n+Z.t*changes X.C.f X.C.n:=by
  have ecn:X.C.n=s:=by omega
  rw[ecn]
  by_cases h1:s=1
  ·rw[FF.one Al,h1]
   simp[Fair.Ju,changes,ms]
  ·have e:=(FF.two Al).1
   have l:=qa (x:=X.C.f) fit.good Al fun p hp=>by
    have a:=hin p Al
    have b:=fit.hi p hp
    rw[zhi]at b
    have c:Z.lo p=Agr.TX T.toTable p:=zlo p
    omega
   rw[e]
   rw[zn]at l
   rw[zn]
   exact l
 generalize Fair.Ju X.C.f X.C.n+Z.t*changes X.C.f X.C.n=MM at hM
 (focus((try with_reducible apply wpC.to);(repeat'((conv=>whnf);first|refine Ak ?_|(apply Fork.mk<;>(intro _;try(exfalso;omega)))|((refine AH ?_);first|((first|apply Ae|apply Ac|apply Ad)<;>intro _ _ _ _<;>try contradiction)|(apply Ab;intro _ _ _))|refine Ax ?_|fail));all_goals((conv=>whnf);try with_reducible apply At.mk)))
 all_goals((refine Au ?_);rfl)
end AE.Tryz

/- What comes in, for TopFairTanks: the shapes of the arguments' types, and the values that they hold. -/
namespace AE.T9InF
open Go Go.Proofs Go.Proofs.YtneenfjffejnoaaGreat AE AE.Tryz AE.Tryz.Agr
set_option maxRecDepth 100000

def C4:Sh:=.cons (.int .i64) (.cons (.int .i64) .nil)
def Kz:Sh:=.cons (.int .i64) (.cons (.int .i64) (.cons C4 .nil))
def Q0:Sh:=.cons (.int .i64) (.cons (.int .i64) (.cons C4 (.cons (.slice Kz) .nil)))
def QZ:Sh:=.cons (.slice (.int .i64)) (.cons (.slice (.int .i64)) .nil)
theorem SY:EO Tryz.prog (.int .i64) 2:=.int Tryz.underlying2
theorem isInt:EO Tryz.prog (.int .i64) 3:=.int Tryz.underlying3
theorem nM:EO Tryz.prog (.slice (.int .i64)) 37:=.slice Tryz.underlying37 (by kernel_rfl) (by decide) SY
theorem YH:EO Tryz.prog C4 23:=.struct Tryz.underlying23 (by kernel_rfl) (.cons (by kernel_rfl) (by kernel_rfl) SY (.cons (by kernel_rfl) (by kernel_rfl) SY .nil))
theorem bD:EO Tryz.prog Kz 33:=.struct Tryz.underlying33 (by kernel_rfl) (.cons (by kernel_rfl) (by kernel_rfl) isInt (.cons (by kernel_rfl) (by kernel_rfl) isInt (.cons (by kernel_rfl) (by kernel_rfl) YH .nil)))
theorem tC:EO Tryz.prog (.slice Kz) 29:=.slice Tryz.underlying29 (by kernel_rfl) (by decide) bD
theorem tE:EO Tryz.prog Q0 31:=.struct Tryz.underlying31 (by kernel_rfl) (.cons (by kernel_rfl) (by kernel_rfl) isInt (.cons (by kernel_rfl) (by kernel_rfl) isInt (.cons (by kernel_rfl) (by kernel_rfl) YH (.cons (by kernel_rfl) (by kernel_rfl) tC .nil))))
theorem tB:EO Tryz.prog QZ 39:=.struct Tryz.underlying39 (by kernel_rfl) (.cons (by kernel_rfl) (by kernel_rfl) nM (.cons (by kernel_rfl) (by kernel_rfl) nM .nil))
theorem Ad7:EO Tryz.prog (.int .u32) 75:=.int Tryz.underlying75
theorem eH {h:H}{m:Nat}{cs:List Value}(k:Fits h m (.slice (.int .i64)) cs):∃A:Agr.G9,cs=[A.val]/\A.Ok m h:=by
 obtain⟨b,a,n,c,rfl,h1,h2,h3,h4,h5,h6⟩:=k
 have hz:∀i,i<n->∃z:Int,h.Bu (BI a i) 1=some [.int .i64 z]:=fun i hi=>by
  obtain⟨l,e1,z,rfl, -⟩:=h6 i hi
  exact⟨z,by simpa[Sh.size]using e1⟩
 obtain⟨f,hf⟩:=GH (0:Int) hz
 exact⟨⟨n,f,b,a,c⟩,rfl,h3,hf,fun h=>(h4 h).1,by
  show n<=_
  rcases h2 with h2|⟨-,h2⟩
  ·unfold maxLen at h2;omega
  ·omega⟩
theorem VJ {h:H}{m:Nat}{cs:List Value}(k:Fits h m Kz cs):∃x:F1,cs=x.cells:=by
 obtain⟨zs,rfl,l, -⟩:=HA (k:=.i64) (by decide) k
 match zs,l with
 |[a,b,c,d],_=>exact⟨⟨a,b,c,d⟩,rfl⟩
theorem lQ {h:H}{m:Nat}{cs:List Value}(k:Fits h m Q0 cs):∃T:Tab,cs=T.cells/\T.Ok m h:=by
 obtain⟨c1,c2,rfl,k1,c3,c4,rfl,k2,c5,c6,rfl,k3,c7,c8,rfl,k4,k5⟩:=k
 have k5:c8=[]:=k5
 subst k5
 obtain⟨z1,rfl, -⟩:=k1
 obtain⟨z2,rfl, -⟩:=k2
 obtain⟨zs,rfl,l, -⟩:=HA (k:=.i64) (by decide) k3
 obtain⟨b,a,n,c,rfl,h1,h2,h3,h4,h5,h6⟩:=k4
 have hz:∀i,i<n->∃x:F1,h.Bu (BI a (i*4)) 4=some x.cells:=fun i hi=>by
  obtain⟨l,e1,k1⟩:=h6 i hi
  obtain⟨x,rfl⟩:=VJ k1
  exact⟨x,e1⟩
 obtain⟨f,hf⟩:=GH (⟨0,0,0,0⟩:F1) hz
 match zs,l with
 | [lo,hi],_=>
   exact⟨⟨z1,z2,lo,hi,n,f,b,a,c⟩,rfl,h3,hf,fun h=>(h4 h).1,by
    show n<=_
    rcases h2 with h2|⟨-,h2⟩
    ·unfold maxLen at h2;omega
    ·omega⟩
theorem lM {h:H}{m:Nat}{cs:List Value}(k:Fits h m QZ cs):∃t:Er,cs=t.cells/\t.Ok m h:=by
 obtain⟨c1,c2,rfl,k1,c3,c4,rfl,k2,k3⟩:=k
 have k3:c4=[]:=k3
 subst k3
 obtain⟨A,rfl,hA⟩:=eH k1
 obtain⟨C,rfl,hC⟩:=eH k2
 exact⟨⟨A,C⟩,rfl,hA,hC⟩
theorem wW {h:H}{m:Nat}{v:Value}(k:Fits h m (.int .u32) [v]):∃n:Int,v= .int .u32 n/\0<=n/\n<4294967296:=by
 obtain⟨n,e,h1,h2⟩:=k
 simp only[IntKind.min,IntKind.max,IntKind.signed,IntKind.bits]at h1 h2
 simp at h1 h2 e
 exact⟨n,e,h1,by omega⟩
end AE.T9InF
