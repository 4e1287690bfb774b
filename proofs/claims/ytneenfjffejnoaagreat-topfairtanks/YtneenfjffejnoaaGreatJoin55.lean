/- Walks and plain laws: NTopF7, NTopF8, NTopH2. -/
import Derived.Test.YtneenfjffejnoaaGreatJoin72
set_option linter.unusedVariables false
set_option linter.unusedSimpArgs false
set_option linter.unusedSectionVars false

/- Walks of fair: the best line of a drawer. -/
namespace AE.Tryz
open Go AE Go.Proofs AE.Fair
set_option maxRecDepth 100000
set_option linter.unusedVariables false

structure Fairest (S:Cx) (x:Nat->Int) (T:Int):Prop where
 inn:∀j,j<S.r.n->S.lo j<=x j/\x j<=S.lo j+(S.w j:Int) - 1
 one:S.r.n=1->T=0
 two:2<=S.r.n->T=(Hj S.t S.lo S.w S.r.n).2/\mc S.t (ms x (S.r.n - 2))=T
structure BS where
 i:Nat
 a:Nat
 b:Nat
 s:Int
 x:Nat->Int
 r:Nat
 w:Option Addr
theorem ug {h:H}{S:Cx}{m d l rd rs k:Nat}{F:Nat->Int}(hm:m<=h.next) (D:Ej h m d l S F) (B:Behind S F 0) (hn:2<=S.r.n) (hk:k<S.w 0*S.w 1) (Am3:rd<h.next) (Am2:rs<h.next) (hrd:h.get rd=some (.cells [.pointer (some ⟨d,0,none⟩)] 144)) (hrs:h.get rs=some (.cells [.int .i64 (S.w 1)] 3)):
 AW Tryz.prog 134 h.next h [.int .i64 k,.pointer (some ⟨rd,0,none⟩),.pointer (some ⟨rs,0,none⟩)] (fun v _=>v= .int .i64 (dp S.t S.lo S.w (S.r.n - 2) 1 (k / S.w 1) (k%S.w 1) 0)):=by
 have w0:=D.fit.good.w1 0 Al
 have w1:=D.fit.good.w1 1 Al
 have hdn:=D.dn
 have hln:=D.ln
 have ha:k / S.w 1<S.w 0:=Nat.div_lt_of_lt_mul (by rw[Nat.mul_comm];exact hk)
 have hb:k%S.w 1<S.w 1:=Nat.mod_lt _ Al
 have hkk:k<25:=Nat.lt_of_lt_of_le hk (Nat.le_trans (Nat.mul_le_mul w0.2 w1.2) Al)
 refine Aah.call rfl (Nat.le_refl _) ?_
 unfold Aip
 (focus((try with_reducible apply wpC.to);(repeat'((conv=>whnf);first|refine Ak ?_|refine Ax ?_|fail));all_goals((conv=>whnf);try with_reducible apply At.mk)))
 rw[<-Int.natCast_ediv,<-Int.natCast_emod]
 apply Ar
 focus(exact Ao)
 focus(exact AQ)
 focus exact Ahe (S:=S) (l:=l) (i:=1) (a:=k / S.w 1) (b:=k%S.w 1) (s:=0) (F:=F) Ah Ah ((Aw fun y hy=>Aa).trans D.gd) ((Aw fun y hy=>Aa).trans D.gl) Al Al Al Al Al
 rintro _ h3 rfl q3 Lj
 (focus((try with_reducible apply wpC.to);(repeat'((conv=>whnf);first|refine Ak ?_|refine Ax ?_|fail));all_goals((conv=>whnf);try with_reducible apply At.mk)))
 (refine Au ?_)
 have e:=B 1 (k / S.w 1) (k%S.w 1) 0 Al Al ha hb Al
 unfold ix po at e
 rw[show S.r.n - 1 - 1=S.r.n - 2 by omega]at e
 exact congrArg (Value.int .i64) e
set_option maxHeartbeats 2000000 in
theorem Aca {h:H}{lo m d l:Nat}{S:Cx}(hlo:lo<=h.next) (hll:lo<=l) (hml:m<=l) (hl:l<h.next) (hd:d<h.next) (hdl:d≠l) (D:Ej h m d l S (fun _=>0)):
 AW Tryz.prog 65 lo h [.pointer (some ⟨d,0,none⟩)] (fun v h'=>∃r w c x T,v= .tuple #[.slice w S.r.n c,.int .i64 T]/\LG r h' 2 S.r.n x w c/\h.next<=r/\r<h'.next/\Fairest S x T/\∀r,r<h.next->r≠l->h'.get r=h.get r):=by
 have fit:=D.fit
 have n1:=fit.good.n1
 have n2:=fit.good.n2
 have w0:=fit.good.w1 0 Al
 have l0:=fit.good.lo1 0 Al
 refine Afd.call rfl hlo ?_
 unfold a65
 (focus((try with_reducible apply wpC.to);(repeat'((conv=>whnf);first|refine Ak ?_|(apply Fork.mk<;>(intro _;try(exfalso;omega)))|((refine Bq ?_);first|((first|apply Ae|apply Ac|apply Ad)<;>intro _ _ _ _<;>try contradiction)|(apply Ab;intro _ _ _))|refine Ax ?_|fail));all_goals((conv=>whnf);try with_reducible apply At.mk)))
 apply GD
 focus exact Abj (lo:=lo) (m:=m) (d:=d) (l:=l) (S:=S) Ah hll hml Ah Ah hdl (((D.bump 3).put (r:=h.next) (row:=.cells [.pointer (some ⟨d,0,none⟩)] 144) Al Al Al).bump 2)
 rintro v1 h1 ⟨F,D1,B1,old⟩ q1
 have hn1:h.next+5<=h1.next:=by have:=q1.next;(exact Ah)
 have d1:=D1.gd
 have dn1:=D1.dn
 have ln1:=D1.ln
 unfold Lf at d1
 have g1:h1.get h.next=some (.cells [.pointer (some ⟨d,0,none⟩)] 144):=(old _ Ah Al).trans Aa
 have Ac7:=D1.sr
 obtain⟨se1,si1,sr1,sl1⟩:=D1.sr
 by_cases h1n:S.r.n=1
 ·(focus((try with_reducible apply wpC.to);(repeat'((conv=>whnf);first|refine Ak ?_|(apply Fork.mk<;>(intro _;try(exfalso;omega)))|((refine Bq ?_);first|((first|apply Ae|apply Ac|apply Ad)<;>intro _ _ _ _<;>try contradiction)|(apply Ab;intro _ _ _))|refine Ax ?_|fail));all_goals((conv=>whnf);try with_reducible apply At.mk)))
  (refine Au ?_)
  rw[h1n]
  refine⟨h1.next+8,some ⟨h1.next+8,0,none⟩,1,one (S.lo 0),0,rfl,.inl ⟨rfl,rfl,rfl,?_⟩,Ah,Ah,⟨fun j hj=>?_,fun _=>rfl,fun h2=>by omega⟩,fun r hr hrl=>(Aw fun y hy=>Aa).trans ((old r Ah hrl).trans Ep)⟩
  ·show _=some (BQ.cells [.int .i64 (S.r.f 0).lo] 2)
   (exact Aa)
  ·obtain rfl:j=0:=by omega
   show S.lo 0<=S.lo 0/\_
   simp only[one]
   omega
 have hn2:2<=S.r.n:=by omega
 have w1:=fit.good.w1 1 Al
 (focus((try with_reducible apply wpC.to);(repeat'((conv=>whnf);first|refine Ak ?_|(apply Fork.mk<;>(intro _;try(exfalso;omega)))|((refine Bq ?_);first|((first|apply Ae|apply Ac|apply Ad)<;>intro _ _ _ _<;>try contradiction)|(apply Ab;intro _ _ _))|refine Ax ?_|fail));all_goals((conv=>whnf);try with_reducible apply At.mk)))
 apply Ar
 focus(exact Ao)
 focus(exact AQ)
 focus exact VC (i:=1) (m:=m) (l:=l) Ah (Ac7.same Aq (Nat.le_refl _)) fit ((Aw fun y hy=>Aa).trans D1.gd) Al
 rintro _ h2 rfl q2 yF
 have D2:Ej h2 m d l S F:=(((((D1.bump 10).put (r:=h1.next+8) (row:=.cells [.int .i64 (S.r.f 0).lo] 2) Al Al Al).bump 7).bump 4)).quiet q2 Ah Ah Ah
 have g2:h2.get h.next=some (.cells [.pointer (some ⟨d,0,none⟩)] 144):=(q2.same _ Ah).trans Aa
 have g2':h2.get (h1.next+8)=some (.cells [.int .i64 (S.r.f 0).lo] 2):=(q2.same _ Ah).trans Aa
 have Adr:∀r,r<h.next->r≠l->h2.get r=h.get r:=fun r hr hrl=>(q2.same _ Ah).trans ((Aw fun y hy=>Aa).trans ((old r Ah hrl).trans Ep))
 have Lj:h1.next+21<=h2.next:=by(exact Ah)
 have d2:=D2.gd
 unfold Lf at d2
 have qN:=D2.dn
 have ln2:=D2.ln
 clear old d1 dn1 ln1 g1 Ac7 se1 si1 sr1 sl1 D1 q1
 have hpp:(S.w 0*S.w 1:Nat)<=25:=Nat.le_trans (Nat.mul_le_mul w0.2 w1.2) Al
 have Am6:1<=S.w 0*S.w 1:=Nat.mul_pos Al Al
 have hpe:(S.w 0:Int) * (S.w 1:Int)=((S.w 0*S.w 1:Nat):Int):=by push_cast;rfl
 have hpi:0<=(S.w 0:Int) * (S.w 1:Int)/\(S.w 0:Int) * (S.w 1:Int)<=25:=by omega
 (focus((try with_reducible apply wpC.to);(repeat'((conv=>whnf);first|refine Ak ?_|(apply Fork.mk<;>(intro _;try(exfalso;omega)))|((refine Bq ?_);first|((first|apply Ae|apply Ac|apply Ad)<;>intro _ _ _ _<;>try contradiction)|(apply Ab;intro _ _ _))|refine Ax ?_|fail));all_goals((conv=>whnf);try with_reducible apply At.mk)))
 apply Ar
 focus(exact Ao)
 focus(exact AQ)
 focus exact VC (i:=0) (m:=m) (l:=l) Ah (D2.sr.same Aq (Nat.le_refl _)) fit ((Aw fun y hy=>Aa).trans D2.gd) Al
 rintro _ h3 rfl q3 bI
 have D3:Ej h3 m d l S F:=(((D2.put (r:=h1.next+19) (row:=.cells [.int .i64 0] 3) Al Al Al).put (r:=h1.next+19) (row:=.cells [.int .i64 (S.w 1)] 3) Al Al Al).bump 11).quiet q3 Ah Ah Ah
 have g3:h3.get h.next=some (.cells [.pointer (some ⟨d,0,none⟩)] 144):=(q3.same _ Ah).trans Aa
 have g3':h3.get (h1.next+8)=some (.cells [.int .i64 (S.r.f 0).lo] 2):=(q3.same _ Ah).trans Aa
 have Anh:h3.get (h1.next+19)=some (.cells [.int .i64 (S.w 1)] 3):=(q3.same _ Ah).trans Aa
 have Adq:∀r,r<h.next->r≠l->h3.get r=h.get r:=fun r hr hrl=>(q3.same _ Ah).trans ((Aw fun y hy=>Aa).trans (Adr r hr hrl))
 have Ng:h2.next+11<=h3.next:=by(exact Ah)
 have d3:=D3.gd
 unfold Lf at d3
 have dn3:=D3.dn
 have ln3:=D3.ln
 clear Adr d2 qN ln2 g2 g2' D2 q2 q3
 (focus((try with_reducible apply wpC.to);(repeat'((conv=>whnf);first|refine Ak ?_|(apply Fork.mk<;>(intro _;try(exfalso;omega)))|((refine Bq ?_);first|((first|apply Ae|apply Ac|apply Ad)<;>intro _ _ _ _<;>try contradiction)|(apply Ab;intro _ _ _))|refine Ax ?_|fail));all_goals((conv=>whnf);try with_reducible apply At.mk)))
 rw[hpe]
 apply Ar
 focus(exact Ao)
 focus(exact AQ)
 focus exact eW (n:=S.w 0*S.w 1) (f:=fun k=>dp S.t S.lo S.w (S.r.n - 2) 1 (k / S.w 1) (k%S.w 1) 0) Am6 Al fun k h4 hk q4=>by
        have nx:=q4.next
        exact Ec (ug (m:=m) (d:=d) (l:=l) (F:=F) Ah (D3.quiet (q4.mono (Nat.le_refl _)) Ah Ah Ah) B1 hn2 hk Ah Ah ((q4.same _ Ah).trans Aa) ((q4.same _ Ah).trans Aa)) rfl
 intro v h5 hv q5 N4
 replace hv:v= .tuple #[.int .i64 ((Hj S.t S.lo S.w S.r.n).1:Nat),.int .i64 (Hj S.t S.lo S.w S.r.n).2]:=hv
 subst hv
 have P0:=fun x h0 h1=>aN (x:=x) fit.good hn2 h0 h1
 have hkk:(Hj S.t S.lo S.w S.r.n).1<S.w 0*S.w 1:=by
  have:=(IC (fun k=>dp S.t S.lo S.w (S.r.n - 2) 1 (k / S.w 1) (k%S.w 1) 0) (S.w 0*S.w 1 - 1)).1
  unfold Hj
  omega
 generalize (Hj S.t S.lo S.w S.r.n).1=kk at P0 hkk⊢
 generalize hT:(Hj S.t S.lo S.w S.r.n).2=T at P0⊢
 have hA:kk / S.w 1<S.w 0:=Nat.div_lt_of_lt_mul (by rw[Nat.mul_comm];exact hkk)
 have hB:kk%S.w 1<S.w 1:=Nat.mod_lt _ Al
 have D5:Ej h5 m d l S F:=D3.quiet q5 Ah dn3 ln3
 have g5:h5.get h.next=some (.cells [.pointer (some ⟨d,0,none⟩)] 144):=(q5.same _ Ah).trans Aa
 have g5':h5.get (h1.next+8)=some (.cells [.int .i64 (S.r.f 0).lo] 2):=(q5.same _ Ah).trans Aa
 have Ang:h5.get (h1.next+19)=some (.cells [.int .i64 (S.w 1)] 3):=(q5.same _ Ah).trans Aa
 have Adp:∀r,r<h.next->r≠l->h5.get r=h.get r:=fun r hr hrl=>(q5.same _ Ah).trans (Adq r hr hrl)
 have oa:h3.next<=h5.next:=by(exact Ah)
 have d5:=D5.gd
 unfold Lf at d5
 have dn5:=D5.dn
 have ln5:=D5.ln
 have l1:=fit.good.lo1 1 Al
 unfold Cx.lo at l0 l1
 clear Adq d3 dn3 ln3 g3 g3' Anh D3 q5
 obtain⟨se5,si5,sr5,sl5⟩:=D5.sr
 have eA:((kk:Int) / (S.w 1:Int))=((kk / S.w 1:Nat):Int):=(Int.natCast_ediv _ _).symm
 have eB:((kk:Int)%(S.w 1:Int))=((kk%S.w 1:Nat):Int):=(Int.natCast_emod _ _).symm
 generalize hAA:kk / S.w 1=A at P0 hA eA
 generalize hBB:kk%S.w 1=B at P0 hB eB
 (focus((try with_reducible apply wpC.to);(repeat'((conv=>whnf);first|refine Ak ?_|(apply Fork.mk<;>(intro _;try(exfalso;omega)))|((refine Bq ?_);first|((first|apply Ae|apply Ac|apply Ad)<;>intro _ _ _ _<;>try contradiction)|(apply Ab;intro _ _ _))|refine Ax ?_|fail));all_goals((conv=>whnf);try with_reducible apply At.mk)))
 rw[eA,eB]
 have hx0:∀j,(fun j:Nat=>if j=0 then(S.r.f 0).lo+(A:Int)else(S.r.f 1).lo+(B:Int)) j=if j=0 then(S.r.f 0).lo+(A:Int)else(S.r.f 1).lo+(B:Int):=fun _=>rfl
 generalize (fun j:Nat=>if j=0 then(S.r.f 0).lo+(A:Int)else(S.r.f 1).lo+(B:Int))=x0 at hx0
 have e0:x0 0=(S.r.f 0).lo+(A:Int):=(hx0 0).trans (if_pos rfl)
 have e1:x0 1=(S.r.f 1).lo+(B:Int):=(hx0 1).trans (if_neg Al)
 have P1:=P0 x0 e0 e1
 apply dX (r:=h1.next+8) (n:=1) (f:=x0) (w:=some ⟨h1.next+8,0,none⟩) (c:=1)
 case G=>exact .inl ⟨rfl,rfl,rfl,by rw[e0];(exact Aa)⟩
 case hsv=>exact rfl
 case C=>rw[e1];exact Cells.one Ez (by unfold AE.far;omega) rfl rfl
 case hlo=>omega
 case hlr=>omega
 case hsm=>omega
 intro w6 r6 h6 hr6 jv hx6 L6
 have hx6:h6.next=h5.next+33:=hx6
 have D6:Ej h6 m d l S F:=⟨fit,D5.sr.same (fun x hx=>(jv x Al).trans Ep) (Nat.le_refl _),(jv _ Al).trans ((Aw fun y hy=>Aa).trans D5.gd),(jv _ Al).trans ((Aw fun y hy=>Aa).trans D5.gl),by omega,by omega,D5.bd⟩
 have g6:h6.get h.next=some (.cells [.pointer (some ⟨d,0,none⟩)] 144):=(jv _ Al).trans Aa
 have s6:h6.get (h5.next+8)=some (.cells (Pu 1 A B 0) 236):=(jv _ Al).trans (by unfold Pu;(exact Aa))
 have Ado:∀r,r<h.next->r≠l->h6.get r=h.get r:=fun r hr hrl=>(jv _ Al).trans ((Aw fun y hy=>Aa).trans (Adp r hr hrl))
 clear jv Adp d5 dn5 ln5 g5 g5' Ang D5 se5 si5 sr5 sl5 P0 hkk hAA hBB eA eB hpe hpi
 (focus((try with_reducible apply wpC.to);(repeat'((conv=>whnf);first|refine Ak ?_|(apply Fork.mk<;>(intro _;try(exfalso;omega)))|((refine Bq ?_);first|((first|apply Ae|apply Ac|apply Ad)<;>intro _ _ _ _<;>try contradiction)|(apply Ab;intro _ _ _))|refine Ax ?_|fail));all_goals((conv=>whnf);try with_reducible apply At.mk)))
 refine wp_loop (fun x:BS=>[(1,.pointer (some ⟨h.next,0,none⟩)),(4,.slice x.w (x.i+1) 0),(7,.int .i64 T),(8,.pointer (some ⟨h5.next+8,0,none⟩))])
  (fun x h7=>Ej h7 m d l S F/\h7.get h.next=some (.cells [.pointer (some ⟨d,0,none⟩)] 144)/\h7.get (h5.next+8)=some (.cells (Pu x.i x.a x.b x.s) 236)/\LG x.r h7 2 (x.i+1) x.x x.w 0/\Path S.r.n S.t S.lo S.w T x.x x.i x.a x.b x.s/\(0<=x.s/\x.s<=2)/\
   h5.next+9<=h7.next/\h1.next<=x.r/\x.r≠h5.next+8/\x.r<h7.next/\∀r,r<h.next->r≠l->h7.get r=h.get r)
  (fun x=>S.r.n - x.i) ⟨1,A,B,0,x0,r6,w6⟩ ⟨rfl,rfl,rfl,rfl,trivial⟩ ⟨D6,g6,s6,L6,P1,by simp,by omega,by dsimp only;omega,by dsimp only;omega,by dsimp only;omega,Ado⟩ ?_
 clear D6 g6 s6 L6 P1 Ado hr6 hx6 e0 e1 hx0
 rintro⟨i,a,b,s,x,r,w⟩ g7 h7 ⟨D7,g7',s7,L7,P7,hs7,hn7,hr7,Am4,Aej,xG⟩ K hK
 dsimp only at s7 L7 P7 hs7 hr7 Am4 Aej
 dsimp only
 have d7:=D7.gd
 unfold Lf at d7
 have dn7:=D7.dn
 have ln7:=D7.ln
 have pi1:=P7.i1
 have pi2:=P7.i2
 by_cases hi:i+1<S.r.n
 ·obtain⟨sn,rfl⟩:∃sn:Nat,s=(sn:Int):=⟨s.toNat,by omega⟩
  have pa:=P7.a1
  have pb:=P7.b1
  have wa:=fit.good.w1 (i - 1) Al
  have wb:=fit.good.w1 i Al
  have wc:=fit.good.w1 (i+1) hi
  have lc:=fit.good.lo1 (i+1) hi
  unfold Cx.lo at lc
  have vd:=lu (S:=S) (F:=F) (i:=i) (a:=a) (b:=b) (s:=sn) fit (fun j a b s hj=>B1 j a b s Al) pi1 hi pb Al
  have hc:J8 S.t S.lo S.w (S.r.n - 2 - i) i a b sn<S.w (i+1):=by
   rw[<-vd.2]
   have:=(IC (via S F i a b sn) (S.w (i+1) - 1)).1
   omega
  have Pn:=fun y hy he=>(P7.next (y:=y) fit.good hi hy he).1
  (focus((try with_reducible apply wpC.to);(repeat'((conv=>whnf);first|refine Ak ?_|(apply Fork.mk<;>(intro _;try(exfalso;omega)))|((refine Bq ?_);first|((first|apply Ae|apply Ac|apply Ad)<;>intro _ _ _ _<;>try contradiction)|(apply Ab;intro _ _ _))|refine Ax ?_|fail));all_goals((conv=>whnf);try with_reducible apply At.mk)))
  apply Ar
  focus(exact Ao)
  focus(exact AQ)
  focus exact vS (m:=m) Ah ((D7.bump 10).bump 8) pi1 hi Al Al Al Al
  intro v h8 hv q8 hn8
  rw[vd.2]at hv
  subst hv
  generalize J8 S.t S.lo S.w (S.r.n - 2 - i) i a b sn=c at hc Pn⊢
  have D8:Ej h8 m d l S F:=((D7.bump 10).bump 8).quiet q8 Ah Ah Ah
  have g8:h8.get h.next=some (.cells [.pointer (some ⟨d,0,none⟩)] 144):=(q8.same _ Ah).trans Aa
  have s8:h8.get (h5.next+8)=some (.cells (Pu i a b sn) 236):=(q8.same _ Ah).trans ((Aw fun y hy=>Aa).trans s7)
  have L8:=L7.frame (h':=h8) ((q8.same _ Ah).trans Ep)
  have Adn:∀r,r<h.next->r≠l->h8.get r=h.get r:=fun r hr hrl=>(q8.same _ Ah).trans ((Aw fun y hy=>Aa).trans (xG r hr hrl))
  have hn9:h7.next+18<=h8.next:=by(exact Ah)
  have d8:=D8.gd
  unfold Lf at d8
  have dn8:=D8.dn
  have ln8:=D8.ln
  clear D7 g7' s7 L7 P7 xG d7 dn7 ln7 q8 vd
  have s8':=s8
  unfold Pu at s8'
  (focus((try with_reducible apply wpC.to);(repeat'((conv=>whnf);first|refine Ak ?_|(apply Fork.mk<;>(intro _;try(exfalso;omega)))|((refine Bq ?_);first|((first|apply Ae|apply Ac|apply Ad)<;>intro _ _ _ _<;>try contradiction)|(apply Ab;intro _ _ _))|refine Ax ?_|fail));all_goals((conv=>whnf);try with_reducible apply At.mk)))
  apply Ar
  focus(exact Ao)
  focus(exact AQ)
  focus exact Adl (m:=m) (l:=l) Ah (D8.sr.same Aq (Nat.le_refl _)) fit Ah ((Aw fun y hy=>Aa).trans D8.gd) pi1 hi Al Al Al Al Al
  intro v h9 hv q9 Aom
  have hsg:=aA (s:=(sn:Int)) (d:=dif S.lo i a b c) Al Al
  generalize Lh (sn:Int) (dif S.lo i a b c)=s' at hv hsg Pn
  generalize pay S.t (sn:Int) (dif S.lo i a b c)=py at hv
  unfold Pu at hv
  subst hv
  have D9:Ej h9 m d l S F:=(D8.bump 8).quiet q9 Ah Ah Ah
  have g9:h9.get h.next=some (.cells [.pointer (some ⟨d,0,none⟩)] 144):=(q9.same _ Ah).trans Aa
  have s9:h9.get (h5.next+8)=some (.cells [.int .i64 i,.int .i64 a,.int .i64 b,.int .i64 sn] 236):=(q9.same _ Ah).trans Aa
  have L9:=L8.frame (h':=h9) ((q9.same _ Ah).trans Ep)
  have Amn:∀r,r<h.next->r≠l->h9.get r=h.get r:=fun r hr hrl=>(q9.same _ Ah).trans ((Aw fun y hy=>Aa).trans (Adn r hr hrl))
  have Aop:h8.next<=h9.next:=by(exact Ah)
  have d9:=D9.gd
  unfold Lf at d9
  have dn9:=D9.dn
  have ln9:=D9.ln
  clear D8 g8 s8 s8' L8 Adn d8 dn8 ln8 q9
  obtain⟨se9,si9,sr9,sl9⟩:=D9.sr
  (focus((try with_reducible apply wpC.to);(repeat'((conv=>whnf);first|refine Ak ?_|(apply Fork.mk<;>(intro _;try(exfalso;omega)))|((refine Bq ?_);first|((first|apply Ae|apply Ac|apply Ad)<;>intro _ _ _ _<;>try contradiction)|(apply Ab;intro _ _ _))|refine Ax ?_|fail));all_goals((conv=>whnf);try with_reducible apply At.mk)))
  have hy1:∀j,j<=i->F7 x (i+1) ((S.r.f (i+1)).lo+(c:Int)) j=x j:=fun j hj=>by unfold F7;rw[if_neg Al]
  have hy2:F7 x (i+1) ((S.r.f (i+1)).lo+(c:Int)) (i+1)=(S.r.f (i+1)).lo+(c:Int):=by unfold F7;rw[if_pos rfl]
  generalize F7 x (i+1) ((S.r.f (i+1)).lo+(c:Int))=y at hy1 hy2
  have P8:=Pn y hy1 hy2
  apply dX (r:=r) (n:=i+1) (f:=y) (w:=w) (c:=0)
  case G=>exact(L9.congr fun j hj=>(hy1 j Al).symm).frame Ep
  case hsv=>exact rfl
  case C=>rw[hy2];exact Cells.one Ez (by unfold AE.far;omega) rfl rfl
  case hlo=>omega
  case hlr=>omega
  case hsm=>omega
  intro w' r' h10 Aoi jw yp L10
  have yp:h10.next=h9.next+16:=yp
  have D10:Ej h10 m d l S F:=⟨fit,D9.sr.same (fun x hx=>(jw x Al).trans Ep) (Nat.le_refl _),(jw _ Al).trans ((Aw fun y hy=>Aa).trans D9.gd),(jw _ Al).trans ((Aw fun y hy=>Aa).trans D9.gl),by omega,by omega,D9.bd⟩
  have g10:h10.get h.next=some (.cells [.pointer (some ⟨d,0,none⟩)] 144):=(jw _ Al).trans Aa
  have s10:h10.get (h5.next+8)=some (.cells (Pu (i+1) b c s') 236):=(jw _ Al).trans (by unfold Pu;(exact Aa))
  have Ads:∀r,r<h.next->r≠l->h10.get r=h.get r:=fun r hr hrl=>(jw _ Al).trans ((Aw fun y hy=>Aa).trans (Amn r hr hrl))
  (focus((try with_reducible apply wpC.to);(repeat'((conv=>whnf);first|refine Ak ?_|(apply Fork.mk<;>(intro _;try(exfalso;omega)))|((refine Bq ?_);first|((first|apply Ae|apply Ac|apply Ad)<;>intro _ _ _ _<;>try contradiction)|(apply Ab;intro _ _ _))|refine Ax ?_|fail));all_goals((conv=>whnf);try with_reducible apply At.mk)))
  exact hK ⟨i+1,b,c,s',y,r',w'⟩ _ _ ⟨rfl,rfl,rfl,rfl,trivial⟩ ⟨D10,g10,s10,L10,P8,hsg,by omega,by dsimp only;omega,by dsimp only;omega,by dsimp only;omega,Ads⟩ (by dsimp only;omega)
 ·have ei:i=S.r.n - 1:=by omega
  (focus((try with_reducible apply wpC.to);(repeat'((conv=>whnf);first|refine Ak ?_|(apply Fork.mk<;>(intro _;try(exfalso;omega)))|((refine Bq ?_);first|((first|apply Ae|apply Ac|apply Ad)<;>intro _ _ _ _<;>try contradiction)|(apply Ab;intro _ _ _))|refine Ax ?_|fail));all_goals((conv=>whnf);try with_reducible apply At.mk)))
  (refine Au ?_)
  rw[show i+1=S.r.n by omega]at L7⊢
  refine⟨r,w,0,x,T,rfl,L7.frame rfl,by omega,Ah,⟨fun j hj=>P7.inn j Al,fun h1=>by omega,fun _=>⟨hT.symm,?_⟩⟩,fun r hr hrl=>(Aw fun y hy=>Aa).trans (xG r hr hrl)⟩
  have e:=P7.sum
  rw[show S.r.n - 1 - i=0 by omega,show i - 1=S.r.n - 2 by omega]at e
  simpa[dp]using e
end AE.Tryz

/- Walks of fair: Fairest, and Check of a line within the spots. -/
namespace AE.Tryz
open Go AE Go.Proofs AE.Fair
set_option maxRecDepth 100000
set_option linter.unusedVariables false

theorem jH {h:H}{S:Cx}{m:Nat}(hm:m<=h.next) (hS:S.r.Ok m h) (he:F9 S=0):AW Tryz.prog 25 h.next h [.agg ⟨S.cells⟩] (fun v h'=>∃r w c x T,v= .tuple #[.slice w S.r.n c,.int .i64 T,.int .i64 0]/\LG r h' 2 S.r.n x w c/\h.next<=r/\r<h'.next/\Fairest S x T):=by
 have fit:=Pv he
 refine Agc.call rfl (Nat.le_refl _) ?_
 unfold a25 Cx.cells
 (focus((try with_reducible apply wpC.to);(repeat'((conv=>whnf);first|refine Ak ?_|(apply Fork.mk<;>(intro _;try(exfalso;omega)))|refine Ax ?_|fail));all_goals((conv=>whnf);try with_reducible apply At.mk)))
 apply Ar
 focus(exact Ao)
 focus(exact AQ)
 focus exact O7 (S:=S) (m:=m) Ah (hS.same Aq (Nat.le_refl _))
 intro v h1 hv q1 hn1
 rw[he]at hv
 subst hv
 have S1:S.r.Ok m h1:=hS.same (fun x hx=>(q1.same x Ah).trans Ep) (Nat.le_refl _)
 have g1:h1.get h.next=some (.cells [.slice S.r.b S.r.n S.r.c,.int .i64 S.t] 77):=(q1.same _ Ah).trans Aa
 have hn1':h.next+7<=h1.next:=by(exact Ah)
 (focus((try with_reducible apply wpC.to);(repeat'((conv=>whnf);first|refine Ak ?_|(apply Fork.mk<;>(intro _;try(exfalso;omega)))|refine Ax ?_|fail));all_goals((conv=>whnf);try with_reducible apply At.mk)))
 apply Ar
 focus(exact Ao)
 focus(exact AQ)
 focus exact Yh (S:=S) (m:=m) Ah (S1.same Aq (Nat.le_refl _)) fit
 rintro _ h2 ⟨d,l,rfl,e1,e2,e3,e4,e5,D2⟩ q2 hn2
 have ZL:h1.next<=l:=by(exact Ah)
 have e3':h1.next<=d:=by(exact Ah)
 (focus((try with_reducible apply wpC.to);(repeat'((conv=>whnf);first|refine Ak ?_|(apply Fork.mk<;>(intro _;try(exfalso;omega)))|refine Ax ?_|fail));all_goals((conv=>whnf);try with_reducible apply At.mk)))
 apply GD
 focus exact Aca (lo:=h.next) (m:=m) (d:=d) (l:=l) (S:=S) Ah Al Al Ah Ah e5 D2
 rintro _ h3 ⟨r,w,c,x,T,rfl,L3,f1,f2,FF,old⟩ q3
 have Lj:=q3.next
 (focus((try with_reducible apply wpC.to);(repeat'((conv=>whnf);first|refine Ak ?_|(apply Fork.mk<;>(intro _;try(exfalso;omega)))|refine Ax ?_|fail));all_goals((conv=>whnf);try with_reducible apply At.mk)))
 (refine Au ?_)
 exact⟨r,w,c,x,T,rfl,L3.frame Ep,Ah,Ah,FF⟩

theorem uJ {h:H}{S:Cx}{T:G9}{m m':Nat}(hm:m<=h.next) (hm':m'<=h.next) (hS:S.r.Ok m h) (hT:T.Ok m' h) (he:F9 S=0) (hn:T.n=S.r.n) (hin:∀j,j<S.r.n->(S.r.f j).lo<=T.f j/\T.f j<=(S.r.f j).hi):
 AW Tryz.prog 26 h.next h [.agg ⟨S.cells⟩,.slice T.b T.n T.c] (fun v _=>v= .tuple #[.int .i64 (Ju T.f T.n+S.t*changes T.f T.n),.int .i64 0]):=by
 have fit:=Pv he
 have n1:=fit.good.n1
 have n2:=fit.good.n2
 have t1:=fit.good.t1
 have t2:=fit.good.t2
 have hb:∀i,i<T.n-> -1000000<=T.f i/\T.f i<=1000000:=fun i hi=>by
  have a:=hin i Al
  have b:=fit.good.lo1 i Al
  have c:=fit.hi i Al
  unfold Cx.lo at b c
  omega
 have cb:(0<=changes T.f T.n/\changes T.f T.n<=24)/\0<=Ju T.f T.n/\Ju T.f T.n<=100000000:=by
  unfold changes Ju
  by_cases h1:T.n=1
  ·rw[h1];simp[ms]
  ·have:=mM (f:=T.f) (B:=1000000) (k:=T.n - 2) fun i hi=>hb i Al
   omega
 have tb:0<=S.t*changes T.f T.n/\S.t*changes T.f T.n<=24000000:=by
  have a:=Int.mul_nonneg t1 cb.1.1
  have b:=Int.mul_le_mul (a:=S.t) (b:=changes T.f T.n) (c:=1000000) (d:=24) t2 cb.1.2 cb.1.1 Al
  omega
 obtain⟨te,ti,tr,tl⟩:=hT
 have hT:T.Ok m' h:=⟨te,ti,tr,tl⟩
 obtain⟨se,si,sr,sl⟩:=hS
 have hS:S.r.Ok m h:=⟨se,si,sr,sl⟩
 refine Agb.call rfl (Nat.le_refl _) ?_
 unfold a26 Cx.cells
 (focus((try with_reducible apply wpC.to);(repeat'((conv=>whnf);first|refine Ak ?_|(apply Fork.mk<;>(intro _;try(exfalso;omega)))|((first|refine CF ?_|refine CG ?_|refine Gv ?_|refine CB ?_);first|((first|apply Ae|apply Ac|apply Ad)<;>intro _ _ _ _<;>try contradiction)|(apply Ab;intro _ _ _))|refine Ax ?_|fail));all_goals((conv=>whnf);try with_reducible apply At.mk)))
 apply Ar
 focus(exact Ao)
 focus(exact AQ)
 focus exact O7 (S:=S) (m:=m) Ah (hS.same Aq (Nat.le_refl _))
 intro v h1 hv q1 hn1
 rw[he]at hv
 subst hv
 have s1:Same h.next h h1:=fun x hx=>(q1.same x Ah).trans Ep
 have g1:h1.get h.next=some (.cells [.slice S.r.b S.r.n S.r.c,.int .i64 S.t] 77):=(q1.same _ Ah).trans Aa
 have hn1':h.next+6<=h1.next:=by(exact Ah)
 clear q1
 (focus((try with_reducible apply wpC.to);(repeat'((conv=>whnf);first|refine Ak ?_|(apply Fork.mk<;>(intro _;try(exfalso;omega)))|((first|refine CF ?_|refine CG ?_|refine Gv ?_|refine CB ?_);first|((first|apply Ae|apply Ac|apply Ad)<;>intro _ _ _ _<;>try contradiction)|(apply Ab;intro _ _ _))|refine Ax ?_|fail));all_goals((conv=>whnf);try with_reducible apply At.mk)))
 refine wp_loop (fun s:Nat=>[(1,.slice T.b T.n T.c),(2,.pointer (some ⟨h.next,0,none⟩)),(23,.slice S.r.b S.r.n S.r.c),(24,.int .i64 S.r.n),(25,.int .i64 s)])
  (fun s h3=>Same h.next h h3/\h3.get h.next=some (.cells [.slice S.r.b S.r.n S.r.c,.int .i64 S.t] 77)/\h.next+6<=h3.next/\s<=S.r.n) (fun s=>S.r.n - s) 0 ⟨rfl,rfl,rfl,rfl,rfl,trivial⟩ ⟨Aq,Aa,Ah,by omega⟩ ?_
 clear s1 g1 hn1'
 rintro s g3 h3 ⟨s3,g3',Lj,hs3⟩ K hK
 by_cases hsl:s<S.r.n
 ·have b1:=hin s hsl
  have b2:=hb s Al
  (focus((try with_reducible apply wpC.to);(repeat'((conv=>whnf);first|refine Ak ?_|(apply Fork.mk<;>(intro _;try(exfalso;omega)))|((first|refine CF ?_|refine CG ?_|refine Gv ?_|refine CB ?_);first|((first|apply Ae|apply Ac|apply Ad)<;>intro _ _ _ _<;>try contradiction)|(apply Ab;intro _ _ _))|refine Ax ?_|fail));all_goals((conv=>whnf);try with_reducible apply At.mk)))
  refine hK (s+1) _ _ ⟨rfl,rfl,rfl,rfl,AK rfl Al,trivial⟩ ⟨Aq,Aa,Ah,by omega⟩ Al
 have es:s=S.r.n:=by omega
 subst es
 (focus((try with_reducible apply wpC.to);(repeat'((conv=>whnf);first|refine Ak ?_|(apply Fork.mk<;>(intro _;try(exfalso;omega)))|((first|refine CF ?_|refine CG ?_|refine Gv ?_|refine CB ?_);first|((first|apply Ae|apply Ac|apply Ad)<;>intro _ _ _ _<;>try contradiction)|(apply Ab;intro _ _ _))|refine Ax ?_|fail));all_goals((conv=>whnf);try with_reducible apply At.mk)))
 (refine Au ?_)
 rfl
end AE.Tryz

/- Walks of the definitions of fair: spots. -/
namespace AE.Tryz
open Go AE Go.Proofs AE.Fair
set_option maxRecDepth 100000
set_option linter.unusedVariables false

theorem QM {h:H}{S:Cx}{m:Nat}(hm:m<=h.next) (hS:S.r.Ok m h):AW Tryz.prog 24 h.next h [.agg ⟨S.cells⟩] (fun v _=>v= .int .i64 (F9 S)):=by
 obtain⟨e1,i1,r1,l1⟩:=hS
 refine Agd.call rfl (Nat.le_refl _) ?_
 unfold a24 F9 Cx.cells
 by_cases h0:S.r.n=0\/24<S.r.n
 ·rw[if_pos h0]
  (focus((try with_reducible apply wpC.to);(repeat'((conv=>whnf);first|refine Ak ?_|(apply Fork.mk<;>(intro _;try(exfalso;omega)))|refine Ax ?_|fail));all_goals((conv=>whnf);try with_reducible apply At.mk)))
  all_goals((refine Au ?_);rfl)
 rw[if_neg h0]
 by_cases ht:0<=S.t/\S.t<=1000000
 ·(focus((try with_reducible apply wpC.to);(repeat'((conv=>whnf);first|refine Ak ?_|(apply Fork.mk<;>(intro _;try(exfalso;omega)))|refine Ax ?_|fail));all_goals((conv=>whnf);try with_reducible apply At.mk)))
  refine wp_loop (fun s:Nat=>[(1,.pointer (some ⟨h.next,0,none⟩)),(3,.int .i64 s)]) (fun s h1=>Same h.next h h1/\h.next+1<=h1.next/\h1.get h.next=some (.cells [.slice S.r.b S.r.n S.r.c,.int .i64 S.t] 77)/\s<=S.r.n/\∀i,i<s->¬N2 (S.r.f i)) (fun s=>S.r.n - s) 0 ⟨rfl,rfl,trivial⟩ ⟨Aq,Ah,Aa,by omega,fun i hi=>by omega⟩ ?_
  rintro s g h1 ⟨s1,hn1,g1,hs,hall⟩ K hK
  by_cases hsn:s<S.r.n
  ·by_cases hb:N2 (S.r.f s)
   ·have hne:¬((0<=S.t/\S.t<=1000000)/\∀i,i<S.r.n->¬N2 (S.r.f i)):=fun hh=>hh.2 s hsn hb
    rw[if_neg hne]
    unfold N2 at hb
    (focus((try with_reducible apply wpC.to);(repeat'((conv=>whnf);first|refine Ak ?_|(apply Fork.mk<;>(intro _;try(exfalso;omega)))|refine Ax ?_|fail));all_goals((conv=>whnf);try with_reducible apply At.mk)))
    all_goals((refine Au ?_);rfl)
   ·have Aev:∀i,i<s+1->¬N2 (S.r.f i):=fun i hi=>by
     by_cases e:i=s
     ·subst e;exact hb
     ·exact hall i Al
    unfold N2 at hb
    (focus((try with_reducible apply wpC.to);(repeat'((conv=>whnf);first|refine Ak ?_|(apply Fork.mk<;>(intro _;try(exfalso;omega)))|refine Ax ?_|fail));all_goals((conv=>whnf);try with_reducible apply At.mk)))
    exact hK (s+1) _ _ ⟨rfl,AK rfl Al,trivial⟩ ⟨Aq,Ah,Aa,by omega,Aev⟩ Al
  ·obtain rfl:s=S.r.n:=by omega
   rw[if_pos ⟨ht,hall⟩]
   (focus((try with_reducible apply wpC.to);(repeat'((conv=>whnf);first|refine Ak ?_|(apply Fork.mk<;>(intro _;try(exfalso;omega)))|refine Ax ?_|fail));all_goals((conv=>whnf);try with_reducible apply At.mk)))
   (refine Au ?_)
   rfl
 ·rw[if_neg fun hc=>ht hc.1]
  (focus((try with_reducible apply wpC.to);(repeat'((conv=>whnf);first|refine Ak ?_|(apply Fork.mk<;>(intro _;try(exfalso;omega)))|refine Ax ?_|fail));all_goals((conv=>whnf);try with_reducible apply At.mk)))
  all_goals((refine Au ?_);rfl)

end AE.Tryz
