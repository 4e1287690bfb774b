/- Walks and plain laws: NTopF2, NTopF3, NTopF4, NTopF5, TopSl, NTopF6. -/
import Derived.Test.YtneenfjffejnoaaGreatJoin85
import Derived.Test.YtneenfjffejnoaaGreatAEthree
set_option linter.unusedVariables false
set_option linter.unusedSimpArgs false
set_option linter.unusedSectionVars false

/- Walks of fair: a drawer, what a step costs, the best step. -/
namespace AE.Tryz
open Go AE Go.Proofs AE.Fair
set_option maxRecDepth 100000
set_option linter.unusedVariables false

def Cx.lo (S:Cx) (i:Nat):Int:=(S.r.f i).lo
def Cx.w (S:Cx) (i:Nat):Nat:=((S.r.f i).hi - (S.r.f i).lo).toNat+1
structure Cx.Fit (S:Cx):Prop where
 good:Good S.r.n S.t S.lo S.w
 hi:∀i,i<S.r.n->(S.r.f i).hi=S.lo i+(S.w i:Int) - 1
theorem Pv {S:Cx}(h:F9 S=0):S.Fit:=by
 unfold F9 at h
 split at h
 ·omega
 ·rename_i hn
  split at h
  ·rename_i hg
   have hr:∀i,i<S.r.n->(-1000000<=(S.r.f i).lo/\(S.r.f i).lo<=1000000)/\(-1000000<=(S.r.f i).hi/\(S.r.f i).hi<=1000000)/\0<=(S.r.f i).hi - (S.r.f i).lo/\(S.r.f i).hi - (S.r.f i).lo<=4:=fun i hi=>by
    have:=hg.2 i hi
    unfold N2 at this
    omega
   refine⟨⟨by omega,by omega,hg.1.1,hg.1.2,fun i hi=>?_,fun i hi=>?_⟩,fun i hi=>?_⟩
   all_goals
    have:=hr i hi
    unfold Cx.w
    try unfold Cx.lo
    omega
  ·omega

def Lf (S:Cx) (l:Nat):BQ:=.cells [.slice S.r.b S.r.n S.r.c,.int .i64 S.t,.int .i64 1,.int .i64 S.t,.slice (some ⟨l,0,none⟩) S.r.n S.r.n] 229

theorem rW {h:H}{T:Ug}{i o k:Nat}{l:List Value}(e:JP h T.a T.n 2 (fun i=>(T.f i).cells)) (hi:i<T.n) (hc:cut (T.f i).cells o k=some l):h.Bu (BI (BI T.a (i*2)) o) k=some l:=IB (e i hi) hc
theorem Ax {G G':Prop}(g:G') (t:G'->G:=by(((with_reducible apply Ei.mk);(focus((repeat(first|(apply rW<;>first|assumption|omega|exact rfl)|with_reducible apply Jl|((with_reducible apply KG);focus(dsimp only[BI];omega))|((with_reducible apply Hq);(focus assumption);focus(dsimp only[BI];omega))|((with_reducible apply IY);(focus assumption);focus(dsimp only[BI];omega))));(first|done|fail)));(focus exact Nj)))):G:=t g
theorem VC {h:H}{S:Cx}{m d l i:Nat}(hm:m<=h.next) (hS:S.r.Ok m h) (F:S.Fit) (hd:h.get d=some (Lf S l)) (hi:i<S.r.n):AW Tryz.prog 132 h.next h [.pointer (some ⟨d,0,none⟩),.int .i64 i] (fun v _=>v= .int .i64 (S.w i)):=by
 obtain⟨e1,i1,r1,l1⟩:=hS
 have g1:=F.good.lo1 i hi
 have g2:=F.good.w1 i hi
 have g3:=F.hi i hi
 unfold Cx.lo at g1 g3
 unfold Lf at hd
 refine Aaj.call rfl (Nat.le_refl _) ?_
 unfold Air
 (focus((try with_reducible apply wpC.to);(repeat'((conv=>whnf);first|refine Ak ?_|refine Ax ?_|fail));all_goals((conv=>whnf);try with_reducible apply At.mk)))
 all_goals(refine Au ?_)
 ·congr 1;omega
theorem Bq {G G':Prop}(g:G') (t:G'->G:=by((apply Ar);(focus exact Ao);(focus exact AQ);(focus((apply VC;rotate_left;(focus(apply Ug.Ok.same;(focus assumption);(focus exact Aq);(focus exact Nat.le_refl _)));(focus assumption);(focus exact Aa);(focus omega);(focus exact Ah)))))):G:=t g

def Pu (i a b:Nat) (s:Int):List Value:=[.int .i64 i,.int .i64 a,.int .i64 b,.int .i64 s]
theorem uS {h:H}{l n i a b c:Nat}{e:TypeId}{F:Nat->Int}(hg:h.get l=some (.cells (A0 F (n*75)) e)) (hi:i<n) (ha:a<5) (hb:b<5) (hc:c<3):
 h.Bu (BI (BI (BI (BI ⟨l,0,none⟩ (i*75)) (a*15)) (b*3)) (c*1)) 1=some [.int .i64 (F (i*75+a*15+b*3+c))]:=by
 have hlt:i*75+a*15+b*3+c<n*75:=by omega
 have:=JH hg (i*75+a*15+b*3+c) hlt
 have e:BI (BI (BI (BI ⟨l,0,none⟩ (i*75)) (a*15)) (b*3)) (c*1)=BI ⟨l,0,none⟩ (i*75+a*15+b*3+c):=by
  simp only[BI]
  congr 1
  omega
 rw[e]
 exact this
theorem Ahe {h:H}{S:Cx}{d l i a b:Nat}{s:Int}{F:Nat->Int}(hdn:d<h.next) (hln:l<h.next) (hd:h.get d=some (Lf S l)) (hl:h.get l=some (.cells (A0 F (S.r.n*75)) 338)) (hi:i<S.r.n) (ha:a<5) (hb:b<5) (h0:0<=s) (h2:s<=2):
 AW Tryz.prog 135 h.next h [.pointer (some ⟨d,0,none⟩),.agg ⟨Pu i a b s⟩] (fun v _=>v= .int .i64 (F (i*75+a*15+b*3+s.toNat))):=by
 unfold Lf at hd
 refine Aag.call rfl (Nat.le_refl _) ?_
 unfold Aio Pu
 (focus((try with_reducible apply wpC.to);(repeat'((conv=>whnf);first|refine Ak ?_|refine Ax ?_|fail));all_goals((conv=>whnf);try with_reducible apply At.mk)))
 refine Ei.mk (uS (h:=_) (l:=l) (n:=S.r.n) (i:=i) (a:=a) (b:=b) (c:=s.toNat) (e:=338) (F:=F) Aa hi ha hb Al) rfl ?_
 (focus((try with_reducible apply wpC.to);(repeat'((conv=>whnf);first|refine Ak ?_|refine Ax ?_|fail));all_goals((conv=>whnf);try with_reducible apply At.mk)))
 (refine Au ?_)
 rfl

theorem Adl {h:H}{S:Cx}{m d l i a b c:Nat}{s:Int}(hm:m<=h.next) (hS:S.r.Ok m h) (F:S.Fit) (hdn:d<h.next) (hd:h.get d=some (Lf S l)) (h1:1<=i) (hi:i+1<S.r.n) (ha:a<5) (hb:b<5) (hc:c<5) (h0:0<=s) (h2:s<=2):
 AW Tryz.prog 137 h.next h [.pointer (some ⟨d,0,none⟩),.agg ⟨Pu i a b s⟩,.int .i64 c] (fun v _=>v= .tuple #[.agg ⟨Pu (i+1) b c (Lh s (dif S.lo i a b c))⟩,.int .i64 (pay S.t s (dif S.lo i a b c))]):=by
 obtain⟨e1,i1,r1,l1⟩:=hS
 have g1:=F.good.lo1 (i - 1) Al
 have g2:=F.good.lo1 i Al
 have g3:=F.good.lo1 (i+1) hi
 have w1:=F.good.w1 (i - 1) Al
 have w2:=F.good.w1 i Al
 have w3:=F.good.w1 (i+1) hi
 have n2:=F.good.n2
 have t1:=F.good.t1
 have t2:=F.good.t2
 have hE:dif S.lo i a b c=(S.r.f (i - 1)).lo+a - 2* ((S.r.f i).lo+b)+((S.r.f (i+1)).lo+c):=rfl
 have ht:0<=S.t*qQ s ((S.r.f (i - 1)).lo+a - 2* ((S.r.f i).lo+b)+((S.r.f (i+1)).lo+c))/\S.t*qQ s ((S.r.f (i - 1)).lo+a - 2* ((S.r.f i).lo+b)+((S.r.f (i+1)).lo+c))<=1000000:=by
  unfold qQ
  split
  ·rw[Int.mul_one];omega
  ·rw[Int.mul_zero];omega
 unfold Cx.lo at g1 g2 g3
 unfold Lf at hd
 refine Aae.call rfl (Nat.le_refl _) ?_
 unfold Aim Pu
 (focus((try with_reducible apply wpC.to);(repeat'((conv=>whnf);first|refine Ak ?_|((refine AJ ?_);first|((first|apply Ae|apply Ac|apply Ad)<;>intro _ _ _ _<;>try contradiction)|(apply Ab;intro _ _ _))|refine Ax ?_|fail));all_goals((conv=>whnf);try with_reducible apply At.mk)))
 (refine Au ?_)
 rw[Int.one_mul]
 rfl
end AE.Tryz

/- Walks of fair: the least number of some, the best step. -/
namespace AE.Tryz
open Go AE Go.Proofs AE.Fair
set_option maxRecDepth 100000
set_option linter.unusedVariables false

theorem eW {h:H}{fv:Value}{n:Nat}{f:Nat->Int}(h1:1<=n) (hn:n<=1000000) (hy:∀i h1,i<n->Quiet h.next h h1->∃v h2,v= .int .i64 (f i)/\CX Tryz.prog fv h1.next h1 [.int .i64 i] v h2):
 AW Tryz.prog 133 h.next h [.int .i64 n,fv] (fun v _=>v= .tuple #[.int .i64 ((Da f (n - 1)).1:Nat),.int .i64 (Da f (n - 1)).2]):=by
 refine Aai.call rfl (Nat.le_refl _) ?_
 unfold Aiq
 (focus((try with_reducible apply wpC.to);(repeat'((conv=>whnf);first|refine Ak ?_|(apply Fork.mk<;>(intro _;try(exfalso;omega)))|((refine AJ ?_);first|((first|apply Ae|apply Ac|apply Ad)<;>intro _ _ _ _<;>try contradiction)|(apply Ab;intro _ _ _))|fail));all_goals((conv=>whnf);try with_reducible apply At.mk)))
 apply Dx
 focus exact CJ (hy 0 _ Al AO) Ah
 rintro _ h2 rfl q2
 have hnx2:=q2.next
 (focus((try with_reducible apply wpC.to);(repeat'((conv=>whnf);first|refine Ak ?_|(apply Fork.mk<;>(intro _;try(exfalso;omega)))|((refine AJ ?_);first|((first|apply Ae|apply Ac|apply Ad)<;>intro _ _ _ _<;>try contradiction)|(apply Ab;intro _ _ _))|fail));all_goals((conv=>whnf);try with_reducible apply At.mk)))
 refine wp_loop (fun s:Nat=>[(0,.int .i64 n),(1,fv),(6,.int .i64 ((Da f s).1:Nat)),(7,.int .i64 (Da f s).2),(8,.int .i64 ((s:Int)+1))]) (fun s h1=>Quiet h.next h h1/\s<n) (fun s=>n - s) 0 ⟨rfl,rfl,rfl,rfl,rfl,trivial⟩ ⟨AO,by omega⟩ ?_
 rintro s g h3 ⟨q,hs⟩ K hK
 have hnx:=q.next
 by_cases hsn:s+1<n
 ·(focus((try with_reducible apply wpC.to);(repeat'((conv=>whnf);first|refine Ak ?_|(apply Fork.mk<;>(intro _;try(exfalso;omega)))|((refine AJ ?_);first|((first|apply Ae|apply Ac|apply Ad)<;>intro _ _ _ _<;>try contradiction)|(apply Ab;intro _ _ _))|fail));all_goals((conv=>whnf);try with_reducible apply At.mk)))
  apply Dx
  focus exact CJ (hy (s+1) _ Al AO) Ah
  rintro _ h4 rfl q4
  have Aoj:=q4.next
  by_cases hlt:f (s+1)<(Da f s).2
  ·have e:Da f (s+1)=(s+1,f (s+1)):=by rw[Da,if_pos hlt]
   (focus((try with_reducible apply wpC.to);(repeat'((conv=>whnf);first|refine Ak ?_|(apply Fork.mk<;>(intro _;try(exfalso;omega)))|((refine AJ ?_);first|((first|apply Ae|apply Ac|apply Ad)<;>intro _ _ _ _<;>try contradiction)|(apply Ab;intro _ _ _))|fail));all_goals((conv=>whnf);try with_reducible apply At.mk)))
   refine hK (s+1) _ _ ⟨rfl,rfl,?_,?_,AK rfl Al,trivial⟩ ⟨AO,by omega⟩ Al
   ·rw[e];exact AK rfl (by dsimp only;omega)
   ·rw[e];rfl
  ·have e:Da f (s+1)=Da f s:=by rw[Da,if_neg hlt]
   (focus((try with_reducible apply wpC.to);(repeat'((conv=>whnf);first|refine Ak ?_|(apply Fork.mk<;>(intro _;try(exfalso;omega)))|((refine AJ ?_);first|((first|apply Ae|apply Ac|apply Ad)<;>intro _ _ _ _<;>try contradiction)|(apply Ab;intro _ _ _))|fail));all_goals((conv=>whnf);try with_reducible apply At.mk)))
   refine hK (s+1) _ _ ⟨rfl,rfl,?_,?_,AK rfl Al,trivial⟩ ⟨AO,by omega⟩ Al
   ·rw[e];rfl
   ·rw[e];rfl
 ·have e:s=n - 1:=by omega
  subst e
  (focus((try with_reducible apply wpC.to);(repeat'((conv=>whnf);first|refine Ak ?_|(apply Fork.mk<;>(intro _;try(exfalso;omega)))|((refine AJ ?_);first|((first|apply Ae|apply Ac|apply Ad)<;>intro _ _ _ _<;>try contradiction)|(apply Ab;intro _ _ _))|fail));all_goals((conv=>whnf);try with_reducible apply At.mk)))
  (refine Au ?_)
  rfl

def via (S:Cx) (F:Nat->Int) (i a b:Nat) (s:Int) (c:Nat):Int:=pay S.t s (dif S.lo i a b c)+F ((i+1) *75+b*15+c*3+(Lh s (dif S.lo i a b c)).toNat)
theorem aA {s d:Int}(h0:0<=s) (h2:s<=2):0<=Lh s d/\Lh s d<=2:=by
 unfold Lh
 split
 ·omega
 ·split<;>omega
structure Ej (h:H) (m d l:Nat) (S:Cx) (F:Nat->Int):Prop where
 fit:S.Fit
 sr:S.r.Ok m h
 gd:h.get d=some (Lf S l)
 gl:h.get l=some (.cells (A0 F (S.r.n*75)) 338)
 dn:d<h.next
 ln:l<h.next
 bd:∀k,k<S.r.n*75->0<=F k/\F k<=200000000
theorem Ac0 {h:H}{S:Cx}{m d l i a b c rd rs:Nat}{s:Int}{F:Nat->Int}(hm:m<=h.next) (D:Ej h m d l S F) (Am3:rd<h.next) (Am2:rs<h.next) (hrd:h.get rd=some (.cells [.pointer (some ⟨d,0,none⟩)] 144)) (hrs:h.get rs=some (.cells (Pu i a b s) 236)) (h1:1<=i) (hi:i+1<S.r.n) (ha:a<5) (hb:b<5) (hc:c<5) (h0:0<=s) (h2:s<=2):
 AW Tryz.prog 222 h.next h [.int .i64 c,.pointer (some ⟨rd,0,none⟩),.pointer (some ⟨rs,0,none⟩)] (fun v _=>v= .int .i64 (via S F i a b s c)):=by
 have hb1:=aA (d:=dif S.lo i a b c) h0 h2
 have hF:=D.bd ((i+1) *75+b*15+c*3+(Lh s (dif S.lo i a b c)).toNat) Al
 have hp:=mD (t:=S.t) (s:=s) (B:=40000000) D.fit.good.t1 (d:=dif S.lo i a b c) (by
  have g1:=D.fit.good.lo1 (i - 1) Al
  have g2:=D.fit.good.lo1 i Al
  have g3:=D.fit.good.lo1 (i+1) hi
  have w1:=D.fit.good.w1 (i - 1) Al
  have w2:=D.fit.good.w1 i Al
  have w3:=D.fit.good.w1 (i+1) hi
  unfold dif
  omega)
 have ht:=D.fit.good.t2
 obtain⟨fit,hr,hd,hl,hdn,hln,bd⟩:=D
 unfold Pu at hrs
 refine zk.call rfl (Nat.le_refl _) ?_
 unfold a222
 (focus((try with_reducible apply wpC.to);(repeat'((conv=>whnf);first|refine Ak ?_|refine Ax ?_|fail));all_goals((conv=>whnf);try with_reducible apply At.mk)))
 apply Ar
 focus(exact Ao)
 focus(exact AQ)
 focus exact Adl (m:=m) Ah (hr.same Aq (Nat.le_refl _)) fit Ah Aa h1 hi ha hb hc h0 h2
 rintro _ h3 rfl q3 Lj
 unfold Pu
 (focus((try with_reducible apply wpC.to);(repeat'((conv=>whnf);first|refine Ak ?_|refine Ax ?_|fail));all_goals((conv=>whnf);try with_reducible apply At.mk)))
 apply Ar
 focus(exact Ao)
 focus(exact AQ)
 focus exact Ahe (S:=S) (l:=l) (i:=i+1) (a:=b) (b:=c) (s:=Lh s (dif S.lo i a b c)) (F:=F) Ah Ah Aa Aa hi hb hc hb1.1 hb1.2
 rintro _ h4 rfl q4 Ng
 (focus((try with_reducible apply wpC.to);(repeat'((conv=>whnf);first|refine Ak ?_|refine Ax ?_|fail));all_goals((conv=>whnf);try with_reducible apply At.mk)))
 (refine Au ?_)
 rfl
theorem vS {h:H}{S:Cx}{m d l i a b:Nat}{s:Int}{F:Nat->Int}(hm:m<=h.next) (D:Ej h m d l S F) (h1:1<=i) (hi:i+1<S.r.n) (ha:a<5) (hb:b<5) (h0:0<=s) (h2:s<=2):
 AW Tryz.prog 136 h.next h [.pointer (some ⟨d,0,none⟩),.agg ⟨Pu i a b s⟩] (fun v _=>v= .tuple #[.int .i64 ((Da (via S F i a b s) (S.w (i+1) - 1)).1:Nat),.int .i64 (Da (via S F i a b s) (S.w (i+1) - 1)).2]):=by
 have hw:=D.fit.good.w1 (i+1) hi
 have n2:=D.fit.good.n2
 have fit:=D.fit
 have hr:=D.sr
 have hd:=D.gd
 refine Aaf.call rfl (Nat.le_refl _) ?_
 unfold Ain Pu
 have hdn:=D.dn
 have hln:=D.ln
 (focus((try with_reducible apply wpC.to);(repeat'((conv=>whnf);first|refine Ak ?_|((refine Bq ?_);first|((first|apply Ae|apply Ac|apply Ad)<;>intro _ _ _ _<;>try contradiction)|(apply Ab;intro _ _ _))|refine Ax ?_|fail));all_goals((conv=>whnf);try with_reducible apply At.mk)))
 rename_i h3 q3 Lj
 have g1:h3.get h.next=some (.cells [.pointer (some ⟨d,0,none⟩)] 144):=(q3.same _ Al).trans Aa
 have g2:h3.get (h.next+1)=some (.cells (Pu i a b s) 236):=(q3.same _ Al).trans (by unfold Pu;(exact Aa))
 have D3:Ej h3 m d l S F:=⟨fit,hr.same (fun x hx=>(q3.same x Al).trans Ep) (Nat.le_refl _),(q3.same _ Al).trans Aa,(q3.same _ Al).trans ((Aw fun y hy=>Aa).trans D.gl),by omega,by omega,D.bd⟩
 apply Ar
 focus(exact Ao)
 focus(exact AQ)
 focus exact eW (n:=S.w (i+1)) (f:=via S F i a b s) hw.1 Al fun c h4 hc q4=>by
        have nx:=q4.next
        exact Ec (Ac0 (m:=m) (d:=d) (l:=l) Ah ⟨fit,D3.sr.same (fun x hx=>(q4.same x Ah).trans Ep) (Nat.le_refl _),(q4.same _ Ah).trans ((Aw fun y hy=>Aa).trans D3.gd),(q4.same _ Ah).trans ((Aw fun y hy=>Aa).trans D3.gl),Ah,Ah,D.bd⟩ Ah Ah ((q4.same _ Ah).trans ((Aw fun y hy=>Aa).trans g1)) ((q4.same _ Ah).trans ((Aw fun y hy=>Aa).trans g2)) h1 hi ha hb Al h0 h2) rfl
 rintro _ h5 rfl q5 N4
 (focus((try with_reducible apply wpC.to);(repeat'((conv=>whnf);first|refine Ak ?_|((refine Bq ?_);first|((first|apply Ae|apply Ac|apply Ad)<;>intro _ _ _ _<;>try contradiction)|(apply Ab;intro _ _ _))|refine Ax ?_|fail));all_goals((conv=>whnf);try with_reducible apply At.mk)))
 (refine Au ?_)
 rfl
end AE.Tryz

/- Walks of fair: all states of a spot, and what is paid from them on. -/
namespace AE.Tryz
open Go AE Go.Proofs AE.Fair
set_option maxRecDepth 100000
set_option linter.unusedVariables false

structure Stat (h:H) (m d l rd ri i:Nat) (S:Cx):Prop where
 sr:S.r.Ok m h
 gd:h.get d=some (Lf S l)
 grd:h.get rd=some (.cells [.pointer (some ⟨d,0,none⟩)] 144)
 gri:h.get ri=some (.cells [.int .i64 i] 3)
theorem Stat.quiet {h h':H}{m d l rd ri i lo:Nat}{S:Cx}(k:Stat h m d l rd ri i S) (q:Quiet lo h h') (h1:m<=lo) (h2:d<lo) (h3:rd<lo) (h4:ri<lo):Stat h' m d l rd ri i S:=
 ⟨k.sr.same (fun x hx=>q.same x Al) (Nat.le_refl _),(q.same _ h2).trans k.gd,(q.same _ h3).trans k.grd,(q.same _ h4).trans k.gri⟩

set_option maxHeartbeats 1000000 in
theorem lU {h:H}{lo:Nat}{yv:Value}{S:Cx}{m d l rd ri i:Nat}(hlo:lo<=h.next) (fit:S.Fit) (h1:1<=i) (hi:i<S.r.n) (hm:m<=h.next) (hd:d<h.next) (hrd:rd<h.next) (hri:ri<h.next)
 (Inv:Nat->Nat->Nat->H->Prop) (hs:∀a b s h1,Inv a b s h1->Stat h1 m d l rd ri i S) (hst:∀a b s h1 h2,Inv a b s h1->Quiet h1.next h1 h2->Inv a b s h2)
 (hb:∀a b h1,Inv a b 3 h1->Inv a (b+1) 0 h1) (ha:∀a h1,Inv a (S.w i) 0 h1->Inv (a+1) 0 0 h1)
 (hy:∀a b s h1,a<S.w (i - 1)->b<S.w i->s<3->Inv a b s h1->h.next<=h1.next->∃v h2,(v= .bool true/\Inv a b (s+1) h2)/\CX Tryz.prog yv lo h1 [.agg ⟨Pu i a b s⟩] v h2) (hz:Inv 0 0 0 h):
 AW Tryz.prog 297 lo h [yv,.pointer (some ⟨rd,0,none⟩),.pointer (some ⟨ri,0,none⟩)] (fun _ h'=>Inv (S.w (i - 1)) 0 0 h'):=by
 have w1:=fit.good.w1 (i - 1) Al
 have w2:=fit.good.w1 i hi
 refine yW.call rfl hlo ?_
 unfold Ahn
 have n2:=fit.good.n2
 have em:((i:Int) - 1)=((i - 1:Nat):Int):=by omega
 have hz':=hst _ _ _ _ (h.bump 5) hz ⟨by simp[AY],fun _ _=>rfl,fun hc r hr=>hc r (by simp[AY]at hr;omega)⟩
 obtain⟨sr,sd,srd,sri⟩:=hs _ _ _ _ hz
 (focus((try with_reducible apply wpC.to);(repeat'((conv=>whnf);first|refine Ak ?_|(apply Fork.mk<;>(intro _;try(exfalso;omega)))|((first|refine Bq ?_|refine AJ ?_);first|((first|apply Ae|apply Ac|apply Ad)<;>intro _ _ _ _<;>try contradiction)|(apply Ab;intro _ _ _))|refine Ax ?_|fail));all_goals((conv=>whnf);try with_reducible apply At.mk)))
 rw[em]
 apply Ar
 focus(exact Ao)
 focus(exact AQ)
 focus exact VC (m:=m) (l:=l) (S:=S) Ah (sr.same Aq (Nat.le_refl _)) fit Aa Al
 rintro _ h2 rfl q2 hn2
 have hz2:=hst _ _ _ _ h2 hz' q2
 clear hz hz' sr sd srd sri
 have q0:Quiet lo h h2:=by(exact AO)
 (focus((try with_reducible apply wpC.to);(repeat'((conv=>whnf);first|refine Ak ?_|(apply Fork.mk<;>(intro _;try(exfalso;omega)))|((first|refine Bq ?_|refine AJ ?_);first|((first|apply Ae|apply Ac|apply Ad)<;>intro _ _ _ _<;>try contradiction)|(apply Ab;intro _ _ _))|refine Ax ?_|fail));all_goals((conv=>whnf);try with_reducible apply At.mk)))
 refine wp_loop (fun a:Nat=>[(0,yv),(1,.pointer (some ⟨rd,0,none⟩)),(2,.pointer (some ⟨ri,0,none⟩)),(10,.int .i64 (S.w (i - 1))),(11,.int .i64 a)])
  (fun a h3=>Inv a 0 0 h3/\Quiet lo h h3/\h.next<=h3.next/\a<=S.w (i - 1)) (fun a=>S.w (i - 1) - a) 0 ⟨rfl,rfl,rfl,rfl,rfl,trivial⟩ ⟨?_,?_,Ah,by omega⟩ ?_
 ·exact hz2
 ·exact q0
 rintro a g3 h3 ⟨vH,q3,Lj,ha3⟩ K3 hK3
 have ZM:∀{a b s:Nat} {h1:H} (k:Nat),Inv a b s h1->Inv a b s (h1.bump k):=fun k iv=>hst _ _ _ _ _ iv ⟨by simp[AY],fun _ _=>rfl,fun hc r hr=>hc r (by simp[AY]at hr;omega)⟩
 by_cases hal:a<S.w (i - 1)
 ·obtain⟨sr,sd,srd,sri⟩:=hs _ _ _ _ vH
  (focus((try with_reducible apply wpC.to);(repeat'((conv=>whnf);first|refine Ak ?_|(apply Fork.mk<;>(intro _;try(exfalso;omega)))|((first|refine Bq ?_|refine AJ ?_);first|((first|apply Ae|apply Ac|apply Ad)<;>intro _ _ _ _<;>try contradiction)|(apply Ab;intro _ _ _))|refine Ax ?_|fail));all_goals((conv=>whnf);try with_reducible apply At.mk)))
  rename_i h4 q4 Ng
  have iv4:Inv a 0 0 h4:=hst _ _ _ _ _ vH (show Quiet h3.next h3 h4 from AO)
  have q4':Quiet lo h h4:=by(exact AO)
  have tO:h.next<=h4.next:=by(exact Ah)
  clear sr sd srd sri vH q3 Lj q4 Ng
  refine wp_loop (fun b:Nat=>[(0,yv),(1,.pointer (some ⟨rd,0,none⟩)),(2,.pointer (some ⟨ri,0,none⟩)),(10,.int .i64 (S.w (i - 1))),(11,.int .i64 a),(4,.int .i64 a),(16,.int .i64 (S.w i)),(17,.int .i64 b)])
   (fun b h3=>Inv a b 0 h3/\Quiet lo h h3/\h.next<=h3.next/\b<=S.w i) (fun b=>S.w i - b) 0 ⟨rfl,rfl,rfl,rfl,rfl,rfl,rfl,rfl,trivial⟩ ⟨by first|exact iv4|exact ZM _ iv4|exact ZM _ (ZM _ iv4),AO,Ah,by omega⟩ ?_
  rintro b g5 h5 ⟨yb,q5,N4,hb5⟩ K5 hK5
  by_cases hbl:b<S.w i
  ·(focus((try with_reducible apply wpC.to);(repeat'((conv=>whnf);first|refine Ak ?_|(apply Fork.mk<;>(intro _;try(exfalso;omega)))|((first|refine Bq ?_|refine AJ ?_);first|((first|apply Ae|apply Ac|apply Ad)<;>intro _ _ _ _<;>try contradiction)|(apply Ab;intro _ _ _))|refine Ax ?_|fail));all_goals((conv=>whnf);try with_reducible apply At.mk)))
   refine wp_loop (fun s:Nat=>[(0,yv),(1,.pointer (some ⟨rd,0,none⟩)),(2,.pointer (some ⟨ri,0,none⟩)),(10,.int .i64 (S.w (i - 1))),(11,.int .i64 a),(4,.int .i64 a),(16,.int .i64 (S.w i)),(17,.int .i64 b),(5,.int .i64 b),(20,.int .i64 s)])
    (fun s h3=>Inv a b s h3/\Quiet lo h h3/\h.next<=h3.next/\s<=3) (fun s=>3 - s) 0 ⟨rfl,rfl,rfl,rfl,rfl,rfl,rfl,rfl,rfl,rfl,trivial⟩ ⟨by first|exact ZM _ (ZM _ yb)|exact ZM _ (ZM _ (ZM _ yb)),AO,Ah,by omega⟩ ?_
   rintro s g6 h6 ⟨iv6,q6,oa,hs6⟩ K6 hK6
   by_cases hsl:s<3
   ·obtain⟨sr,sd,srd,sri⟩:=hs _ _ _ _ iv6
    (focus((try with_reducible apply wpC.to);(repeat'((conv=>whnf);first|refine Ak ?_|(apply Fork.mk<;>(intro _;try(exfalso;omega)))|((first|refine Bq ?_|refine AJ ?_);first|((first|apply Ae|apply Ac|apply Ad)<;>intro _ _ _ _<;>try contradiction)|(apply Ab;intro _ _ _))|refine Ax ?_|fail));all_goals((conv=>whnf);try with_reducible apply At.mk)))
    apply Dx
    focus exact hy a b s _ hal hbl hsl (hst _ _ _ _ _ iv6 AO) Ah
    rintro _ h7 ⟨rfl,iv7⟩ q7
    have hn7:=q7.next
    clear sr sd srd sri
    (focus((try with_reducible apply wpC.to);(repeat'((conv=>whnf);first|refine Ak ?_|(apply Fork.mk<;>(intro _;try(exfalso;omega)))|((first|refine Bq ?_|refine AJ ?_);first|((first|apply Ae|apply Ac|apply Ad)<;>intro _ _ _ _<;>try contradiction)|(apply Ab;intro _ _ _))|refine Ax ?_|fail));all_goals((conv=>whnf);try with_reducible apply At.mk)))
    refine hK6 (s+1) _ _ ⟨rfl,rfl,rfl,rfl,rfl,rfl,rfl,rfl,rfl,AK rfl Al,trivial⟩ ⟨hst _ _ _ _ _ iv7 AO,AO,Ah,by omega⟩ Al
   have es:s=3:=by omega
   subst es
   (focus((try with_reducible apply wpC.to);(repeat'((conv=>whnf);first|refine Ak ?_|(apply Fork.mk<;>(intro _;try(exfalso;omega)))|((first|refine Bq ?_|refine AJ ?_);first|((first|apply Ae|apply Ac|apply Ad)<;>intro _ _ _ _<;>try contradiction)|(apply Ab;intro _ _ _))|refine Ax ?_|fail));all_goals((conv=>whnf);try with_reducible apply At.mk)))
   refine hK5 (b+1) _ _ ⟨rfl,rfl,rfl,rfl,rfl,rfl,rfl,AK rfl Al,trivial⟩ ⟨hst _ _ _ _ _ (hb _ _ _ iv6) AO,AO,Ah,by omega⟩ Al
  have eb:b=S.w i:=by omega
  subst eb
  (focus((try with_reducible apply wpC.to);(repeat'((conv=>whnf);first|refine Ak ?_|(apply Fork.mk<;>(intro _;try(exfalso;omega)))|((first|refine Bq ?_|refine AJ ?_);first|((first|apply Ae|apply Ac|apply Ad)<;>intro _ _ _ _<;>try contradiction)|(apply Ab;intro _ _ _))|refine Ax ?_|fail));all_goals((conv=>whnf);try with_reducible apply At.mk)))
  refine hK3 (a+1) _ _ ⟨rfl,rfl,rfl,rfl,AK rfl Al,trivial⟩ ⟨hst _ _ _ _ _ (ha _ _ yb) AO,AO,Ah,by omega⟩ Al
 have ea:a=S.w (i - 1):=by omega
 subst ea
 (focus((try with_reducible apply wpC.to);(repeat'((conv=>whnf);first|refine Ak ?_|(apply Fork.mk<;>(intro _;try(exfalso;omega)))|((first|refine Bq ?_|refine AJ ?_);first|((first|apply Ae|apply Ac|apply Ad)<;>intro _ _ _ _<;>try contradiction)|(apply Ab;intro _ _ _))|refine Ax ?_|fail));all_goals((conv=>whnf);try with_reducible apply At.mk)))
 (refine Au ?_)
 exact ZM _ vH
end AE.Tryz

/- Walks of fair: what is paid from all states on is found. -/
namespace AE.Tryz
open Go AE Go.Proofs AE.Fair
set_option maxRecDepth 100000
set_option linter.unusedVariables false

theorem Ac9 {h:H}{d i:Nat}:AW Tryz.prog 221 h.next h [.pointer (some ⟨d,0,none⟩),.int .i64 i] (fun v h'=>∃rd ri,v= .func (.func 297) ⟨[]⟩ ⟨[.pointer (some ⟨rd,0,none⟩),.pointer (some ⟨ri,0,none⟩)]⟩/\h.next<=rd/\rd<h'.next/\h.next<=ri/\ri<h'.next/\
 h'.get rd=some (.cells [.pointer (some ⟨d,0,none⟩)] 144)/\h'.get ri=some (.cells [.int .i64 i] 3)):=by
 refine zl.call rfl (Nat.le_refl _) ?_
 unfold Ahz
 (focus((try with_reducible apply wpC.to);(repeat'((conv=>whnf);first|refine Ak ?_|fail));all_goals((conv=>whnf);try with_reducible apply At.mk)))
 (refine Au ?_)
 exact⟨_,_,rfl,Ah,Ah,Ah,Ah,Aa,Aa⟩

def ix (i a b s:Nat):Nat:=i*75+a*15+b*3+s
def po (S:Cx) (i a b s:Nat):Int:=dp S.t S.lo S.w (S.r.n - 1 - i) i a b s
def Behind (S:Cx) (F:Nat->Int) (i:Nat):Prop:=∀j a b s,i<j->j<S.r.n->a<S.w (j - 1)->b<S.w j->s<3->F (ix j a b s)=po S j a b s
def Acn (S:Cx) (F:Nat->Int) (i a b s:Nat):Prop:=∀a' b' s',a'<S.w (i - 1)->b'<S.w i->s'<3->(a'<a\/a'=a/\(b'<b\/b'=b/\s'<s))->F (ix i a' b' s')=po S i a' b' s'
theorem lu {S:Cx}{F:Nat->Int}{i a b s:Nat}(fit:S.Fit) (B:Behind S F i) (h1:1<=i) (hi:i+1<S.r.n) (hb:b<S.w i) (hs:s<3):(Da (via S F i a b s) (S.w (i+1) - 1)).2=po S i a b s/\(Da (via S F i a b s) (S.w (i+1) - 1)).1=J8 S.t S.lo S.w (S.r.n - 2 - i) i a b s:=by
 have hw:=fit.good.w1 (i+1) hi
 have e:Da (via S F i a b s) (S.w (i+1) - 1)=Da (fun c=>pay S.t s (dif S.lo i a b c)+dp S.t S.lo S.w (S.r.n - 2 - i) (i+1) b c (Lh s (dif S.lo i a b c))) (S.w (i+1) - 1):=OC _ fun c hc=>by
  have h3:=aA (s:=(s:Int)) (d:=dif S.lo i a b c) Al Al
  have:=B (i+1) b c (Lh s (dif S.lo i a b c)).toNat Al hi (by simpa using hb) Al Al
  unfold ix po at this
  unfold via
  rw[this,show S.r.n - 1 - (i+1)=S.r.n - 2 - i by omega,Int.toNat_of_nonneg h3.1]
 rw[e]
 refine⟨?_,rfl⟩
 unfold po
 rw[show S.r.n - 1 - i=S.r.n - 2 - i+1 by omega]
 rfl

theorem ZZ {S:Cx}{F:Nat->Int}{i a b s:Nat}{v:Int}(fit:S.Fit) (h1:1<=i) (hi:i<S.r.n) (ha:a<5) (hb:b<5) (hs:s<3) (B:Behind S F i):Behind S (F7 F (ix i a b s) v) i:=fun j a' b' s' hj hjn ha' hb' hs'=>by
 have w1:=fit.good.w1 (j - 1) Al
 have w2:=fit.good.w1 j hjn
 rw[<-B j a' b' s' hj hjn ha' hb' hs']
 unfold F7 ix
 rw[if_neg Al]
theorem lF {S:Cx}{F:Nat->Int}{i a b s:Nat}(fit:S.Fit) (h1:1<=i) (hi:i<S.r.n) (ha:a<S.w (i - 1)) (hb:b<S.w i) (hs:s<3) (U:Acn S F i a b s):Acn S (F7 F (ix i a b s) (po S i a b s)) i a b (s+1):=fun a' b' s' ha' hb' hs' hl=>by
 have w1:=fit.good.w1 (i - 1) Al
 have w2:=fit.good.w1 i hi
 by_cases e:a'=a/\b'=b/\s'=s
 ·obtain⟨rfl,rfl,rfl⟩:=e
  unfold F7
  rw[if_pos rfl]
 ·rw[<-U a' b' s' ha' hb' hs' Al]
  unfold F7 ix
  rw[if_neg Al]

theorem Ej.quiet {h h':H}{m d l lo:Nat}{S:Cx}{F:Nat->Int}(k:Ej h m d l S F) (q:Quiet lo h h') (hm:m<=lo) (hd:d<lo) (hl:l<lo):Ej h' m d l S F:=
 ⟨k.fit,k.sr.same (fun x hx=>q.same x Al) (Nat.le_refl _),(q.same _ hd).trans k.gd,(q.same _ hl).trans k.gl,by have:=k.dn;have:=q.next;omega,by have:=k.ln;have:=q.next;omega,k.bd⟩
theorem Abh {l l':List Value}(h:l=l'):Is l l':=h▸Is.rfl
theorem Ej.set {h:H}{m d l k:Nat}{v:Int}{S:Cx}{F:Nat->Int}(D:Ej h m d l S F) (hm:m<=l) (hd:d≠l) (hv:0<=v/\v<=200000000):Ej (h.put l (.cells (A0 (F7 F k v) (S.r.n*75)) 338)) m d l S (F7 F k v):=
 ⟨D.fit,D.sr.same (fun x hx=>by simp[H.put];omega) (Nat.le_refl _),by simp[H.put,hd,D.gd],by simp[H.put],D.dn,D.ln,fun j hj=>by
  unfold F7
  split
  ·exact hv
  ·exact D.bd j hj⟩
theorem Ej.bump {h:H}{m d l:Nat}{S:Cx}{F:Nat->Int}(k:Ej h m d l S F) (n:Nat):Ej (h.bump n) m d l S F:=
 ⟨k.fit,k.sr.same (fun _ _=>rfl) (Nat.le_refl _),k.gd,k.gl,by have:=k.dn;simp[AY];omega,by have:=k.ln;simp[AY];omega,k.bd⟩
theorem Ej.put {h:H}{m d l r:Nat}{row:BQ}{S:Cx}{F:Nat->Int}(k:Ej h m d l S F) (hm:m<=r) (hd:d≠r) (hl:l≠r):Ej (h.put r row) m d l S F:=
 ⟨k.fit,k.sr.same (fun x hx=>by simp[H.put];omega) (Nat.le_refl _),by simp[H.put,hd,k.gd],by simp[H.put,hl,k.gl],k.dn,k.ln,k.bd⟩
structure FS where
 i:Int
 r:Nat
set_option maxHeartbeats 2000000 in
theorem Abj {h:H}{lo m d l:Nat}{S:Cx}(hlo:lo<=h.next) (hll:lo<=l) (hml:m<=l) (hl:l<h.next) (hd:d<h.next) (hdl:d≠l) (D:Ej h m d l S (fun _=>0)):
 AW Tryz.prog 131 lo h [.pointer (some ⟨d,0,none⟩)] (fun _ h'=>∃F,Ej h' m d l S F/\Behind S F 0/\∀r,r<h.next->r≠l->h'.get r=h.get r):=by
 have fit:=D.fit
 have hr:=D.sr
 have hd':=D.gd
 have n1:=fit.good.n1
 have n2:=fit.good.n2
 have hl':=D.gl
 unfold Lf at hd'
 refine oJ.call rfl hlo ?_
 unfold a131
 (focus((try with_reducible apply wpC.to);(repeat'((conv=>whnf);first|refine Ak ?_|(apply Fork.mk<;>(intro _;try(exfalso;omega)))|refine Ax ?_|fail));all_goals((conv=>whnf);try with_reducible apply At.mk)))
 refine wp_loop (fun x:FS=>[(1,.pointer (some ⟨h.next,0,none⟩)),(2,.pointer (some ⟨x.r,0,none⟩))])
  (fun x h1=>h.next+1<=h1.next/\h.next<=x.r/\x.r≠h.next/\x.r<h1.next/\x.i<=S.r.n - 2/\ -1<=x.i/\h1.get (h.next)=some (.cells [.pointer (some ⟨d,0,none⟩)] 144)/\h1.get x.r=some (.cells [.int .i64 x.i] 3)/\
   (∃F,Ej h1 m d l S F/\Behind S F x.i.toNat)/\∀r,r<h.next->r≠l->h1.get r=h.get r) (fun x=>x.i.toNat) ⟨S.r.n - 2,h.next+8⟩ ⟨rfl,rfl,trivial⟩ ?_ ?_
 ·have D':=((((D.bump 1).put (r:=h.next) (row:=.cells [.pointer (some ⟨d,0,none⟩)] 144) Al Al Al).bump 9).put (r:=h.next+8) (row:=.cells [.int .i64 0] 3) Al Al Al).put (r:=h.next+8) (row:=.cells [.int .i64 (S.r.n - 2)] 3) Al Al Al
  refine⟨Ah,by dsimp only;omega,by dsimp only;omega,by dsimp only;(exact Ah),by dsimp only;omega,by dsimp only;omega,Aa,by dsimp only;(exact Aa),⟨_,D',fun j a b s hj hjn ha hb hs=>?_⟩,fun r hr hrl=>Aw fun y hy=>Aa⟩
  dsimp only at hj
  have e:j=S.r.n - 1:=by omega
  subst e
  unfold po
  rw[Nat.sub_self]
  rfl
 rintro⟨z,r2⟩ g1 h1 ⟨hn1,hr1,hr2,hr3,hz1,hz2,g2,g3,⟨F,D1,B1⟩,old⟩ K hK
 dsimp only at hr1 hr2 hr3 hz1 hz2 g3 B1
 dsimp only
 by_cases hz:0<z
 ·obtain⟨i,rfl⟩:∃i:Nat,z=i:=⟨z.toNat,by omega⟩
  have di:=D1.gd
  have hi:1<=i/\i+1<S.r.n:=by omega
  rw[Int.toNat_natCast]at B1
  (focus((try with_reducible apply wpC.to);(repeat'((conv=>whnf);first|refine Ak ?_|(apply Fork.mk<;>(intro _;try(exfalso;omega)))|refine Ax ?_|fail));all_goals((conv=>whnf);try with_reducible apply At.mk)))
  apply Ar
  focus(exact Ao)
  focus(exact AQ)
  focus exact Ac9
  rintro _ h2 ⟨rd,ri,rfl,e1,e2,e3,e4,e5,e6⟩ q2 hn2
  have yF:h1.next+5<=h2.next:=by(exact Ah)
  have ZL:h1.next<=rd:=by(exact Ah)
  have e3':h1.next<=ri:=by(exact Ah)
  have hm1:m<=h1.next:=by omega
  have D2:Ej h2 m d l S F:=(D1.bump 5).quiet q2 Ah Ah Ah
  have g2':h2.get h.next=some (.cells [.pointer (some ⟨d,0,none⟩)] 144):=(q2.same _ Ah).trans Aa
  have g3':h2.get r2=some (.cells [.int .i64 i] 3):=(q2.same _ Ah).trans Aa
  have old':∀r,r<h.next->r≠l->h2.get r=h.get r:=fun r hr hrl=>(q2.same _ Ah).trans ((Aw fun y hy=>Aa).trans (old r hr hrl))
  clear g2 g3 old di D1
  (focus((try with_reducible apply wpC.to);(repeat'((conv=>whnf);first|refine Ak ?_|(apply Fork.mk<;>(intro _;try(exfalso;omega)))|refine Ax ?_|fail));all_goals((conv=>whnf);try with_reducible apply At.mk)))
  refine Dq (l:=[(1,.pointer (some ⟨h.next,0,none⟩)),(2,.pointer (some ⟨r2,0,none⟩)),(19,.func (.func 297) ⟨[]⟩ ⟨[.pointer (some ⟨rd,0,none⟩),.pointer (some ⟨ri,0,none⟩)]⟩)]) ⟨rfl,rfl,rfl,trivial⟩ fun g'=>?_
  apply IK
  focus exact rfl
  focus(exact Ao)
  focus(exact Jk)
  intro L0 hL0
  refine⟨_,lU (l:=l) (d:=d) (m:=m) (rd:=rd) (ri:=ri) (S:=S) (i:=i) Ah fit hi.1 Al Ah Ah Ah Ah
   (fun a b s h3=>(∃F,Ej h3 m d l S F/\Behind S F i/\Acn S F i a b s)/\h3.get rd=some (.cells [.pointer (some ⟨d,0,none⟩)] 144)/\h3.get ri=some (.cells [.int .i64 i] 3)/\h3.get h.next=some (.cells [.pointer (some ⟨d,0,none⟩)] 144)/\h3.get r2=some (.cells [.int .i64 i] 3)/\
    h3.get h2.next=some (.loop L0)/\h2.next<h3.next/\∀r,r<h.next->r≠l->h3.get r=h.get r) ?_ ?_ ?_ ?_ ?_ ?_,?_⟩
  ·rintro a b s h3 ⟨⟨F,D3, -, -⟩,k1,k2, -⟩
   exact⟨D3.sr,D3.gd,k1,k2⟩
  ·rintro a b s h3 h4 ⟨⟨F,D3,B3,U3⟩,k1,k2,k3,k4,k5,k6,k7⟩ q
   have:=q.next
   exact⟨⟨F,D3.quiet q Al D3.dn D3.ln,B3,U3⟩,(q.same _ Al).trans k1,(q.same _ Al).trans k2,(q.same _ Al).trans k3,(q.same _ Al).trans k4,(q.same _ Al).trans k5,by omega,fun r hr hrl=>(q.same _ Al).trans (k7 r hr hrl)⟩
  ·rintro a b h3 ⟨⟨F,D3,B3,U3⟩,k⟩
   exact⟨⟨F,D3,B3,fun a' b' s' ha' hb' hs' hl'=>U3 a' b' s' ha' hb' hs' Al⟩,k⟩
  ·rintro a h3 ⟨⟨F,D3,B3,U3⟩,k⟩
   exact⟨⟨F,D3,B3,fun a' b' s' ha' hb' hs' hl'=>U3 a' b' s' ha' hb' hs' Al⟩,k⟩
  ·rintro a b s h3 ha hb hs ⟨⟨F,D3,B3,U3⟩,k1,k2,k3,k4,k5,k6,k7⟩ hle
   have w1:=fit.good.w1 (i - 1) Al
   have w2:=fit.good.w1 i Al
   refine YA.call oJ.mixed (A:=Xi) (B:=Xh) (L:=L0) (by rw[hL0];exact Ab0) (by rw[hL0];exact Abz) k5 Al Al (by rw[hL0];exact rfl) (by rw[hL0];exact rfl) ?_
   unfold YA Xi
   refine Dq (l:=[(1,.pointer (some ⟨h.next,0,none⟩)),(2,.pointer (some ⟨r2,0,none⟩)),(20,.agg ⟨Pu i a b s⟩)]) ⟨by rw[hL0];exact rfl,by rw[hL0];exact rfl,by rw[hL0];exact rfl,trivial⟩ fun g''=>?_
   unfold Pu
   (focus((try with_reducible apply wpC.to);(repeat'((conv=>whnf);first|refine Ak ?_|(apply Fork.mk<;>(intro _;try(exfalso;omega)))|refine Ax ?_|fail));all_goals((conv=>whnf);try with_reducible apply At.mk)))
   refine⟨rfl,L0,Aa,by rw[hL0];exact rfl,?_⟩
   unfold Xh
   have hL1:ended (busy L0) .none=L0:=by rw[hL0];exact rfl
   (focus((try with_reducible apply wpC.to);(repeat'((conv=>whnf);first|refine Ak ?_|(apply Fork.mk<;>(intro _;try(exfalso;omega)))|refine Ax ?_|fail));all_goals((conv=>whnf);try with_reducible apply At.mk)))
   have D4:=((((D3.bump 2).put (r:=h3.next) (row:=.cells [.int .i64 0,.int .i64 0,.int .i64 0,.int .i64 0] 236) Al Al Al).put (r:=h3.next) (row:=.cells (Pu i a b s) 236) Al Al Al).put (r:=h2.next) (row:=.loop (busy L0)) Al Al Al).bump 8
   have vd:=lu (a:=a) fit B3 hi.1 hi.2 hb hs
   apply Ar
   focus(exact Ao)
   focus(exact AQ)
   focus exact vS (m:=m) Ah D4 hi.1 hi.2 Al Al Al Al
   intro v h5 hv q5 N4
   rw[vd.1]at hv
   subst hv
   have D5:Ej h5 m d l S F:=D4.quiet q5 Ah Ah Ah
   have Aem:h3.next+10<=h5.next:=by(exact Ah)
   have p0:h5.get h3.next=some (.cells (Pu i a b s) 236):=(q5.same _ Ah).trans (by unfold Pu;(exact Aa))
   have p1:h5.get rd=some (.cells [.pointer (some ⟨d,0,none⟩)] 144):=(q5.same _ Ah).trans Aa
   have p2:h5.get ri=some (.cells [.int .i64 i] 3):=(q5.same _ Ah).trans Aa
   have p3:h5.get h.next=some (.cells [.pointer (some ⟨d,0,none⟩)] 144):=(q5.same _ Ah).trans Aa
   have p4:h5.get r2=some (.cells [.int .i64 i] 3):=(q5.same _ Ah).trans Aa
   have p5:h5.get h2.next=some (.loop (busy L0)):=(q5.same _ Ah).trans Aa
   have p7:∀r,r<h.next->r≠l->h5.get r=h.get r:=fun r hr hrl=>(q5.same _ Ah).trans ((Aw fun y hy=>Aa).trans (k7 r hr hrl))
   have gd5:=D5.gd
   have gl5:=D5.gl
   unfold Lf at gd5
   unfold Pu at p0
   have hlt:ix i a b s<S.r.n*75:=by unfold ix;omega
   have hbd:=fit.good.wo (S.r.n - 1 - i) i a b s hi.1 Al ha hb
   clear D4 D3 k1 k2 k3 k4 k5 k7
   (focus((try with_reducible apply wpC.to);(repeat'((conv=>whnf);first|refine Ak ?_|(apply Fork.mk<;>(intro _;try(exfalso;omega)))|refine Ax ?_|fail));all_goals((conv=>whnf);try with_reducible apply At.mk)))
   refine Xq.mk (r:=l) (off:=0+i*75+a*15+b*3+s*1) (c':=A0 (F7 F (ix i a b s) (po S i a b s)) (S.r.n*75)) rfl hll gl5 rfl rfl (Nat.ble_eq_true_of_le (by rw[EL];unfold ix at hlt;omega)) (Abh (Gn F _ hlt (by unfold ix;omega))) ?_
   (focus((try with_reducible apply wpC.to);(repeat'((conv=>whnf);first|refine Ak ?_|(apply Fork.mk<;>(intro _;try(exfalso;omega)))|refine Ax ?_|fail));all_goals((conv=>whnf);try with_reducible apply At.mk)))
   refine⟨.none,_,rfl,Aa,rfl,?_⟩
   rw[hL1]
   have D6:=((D5.bump 18).set (k:=ix i a b s) (v:=po S i a b s) hml hdl (by unfold po;omega)).put (r:=h2.next) (row:=.loop L0) Al Al Al
   exact⟨⟨_,D6,ZZ fit hi.1 Al Al Al hs B3,lF fit hi.1 Al ha hb hs U3⟩,Aa,Aa,Aa,Aa,Aa,Ah,fun r hr hrl=>(Aw fun y hy=>Aa).trans (p7 r hr hrl)⟩
  ·have D2':=(D2.bump 1).put (r:=h2.next) (row:=.loop L0) Al Al Al
   exact⟨⟨F,D2',B1,fun a' b' s' _ _ _ hl'=>by omega⟩,Aa,Aa,Aa,Aa,Aa,Ah,fun r hr hrl=>(Aw fun y hy=>Aa).trans (old' r hr hrl)⟩
  ·rintro v h4 ⟨⟨F4,D4,B4,U4⟩,k1,k2,k3,k4,k5,k6,k7⟩ q4
   refine⟨_,k5,by rw[hL0];simp[EX],?_⟩
   rw[hL0]
   simp only[EX,FU]
   (focus((try with_reducible apply wpC.to);(repeat'((conv=>whnf);first|refine Ak ?_|(apply Fork.mk<;>(intro _;try(exfalso;omega)))|refine Ax ?_|fail));all_goals((conv=>whnf);try with_reducible apply At.mk)))
   have D5:=(((((D4.put (r:=h2.next) (row:=.gone) Al Al Al).bump 1).bump 2).put (r:=h4.next+1) (row:=.cells [.int .i64 0] 3) Al Al Al).put (r:=h4.next+1) (row:=.cells [.int .i64 i] 3) Al Al Al).bump 3
   have D6:=D5.put (r:=h4.next+1) (row:=.cells [.int .i64 (i - 1)] 3) Al Al Al
   refine hK ⟨(i:Int) - 1,h4.next+1⟩ _ _ ⟨rfl,rfl,trivial⟩ ⟨Ah,by dsimp only;omega,by dsimp only;omega,by dsimp only;(exact Ah),by dsimp only;omega,by dsimp only;omega,Aa,by dsimp only;(exact Aa),⟨F4,D6,fun j a b s hj hjn ha hb hs=>?_⟩,fun r hr hrl=>(Aw fun y hy=>Aa).trans (k7 r hr hrl)⟩ (by dsimp only;omega)
   dsimp only at hj
   rcases Nat.lt_or_ge i j with hij|hij
   ·exact B4 j a b s hij hjn ha hb hs
   ·obtain rfl:j=i:=by omega
    exact U4 a b s ha hb hs Al
 ·(focus((try with_reducible apply wpC.to);(repeat'((conv=>whnf);first|refine Ak ?_|(apply Fork.mk<;>(intro _;try(exfalso;omega)))|refine Ax ?_|fail));all_goals((conv=>whnf);try with_reducible apply At.mk)))
  (refine Au ?_)
  refine⟨F,D1.bump 2,fun j a b s hj hjn ha hb hs=>B1 j a b s Al hjn ha hb hs,fun r hr hrl=>old r hr hrl⟩
end AE.Tryz

/- Slices that begin as one number, and grow. -/
namespace AE
open Go Go.RowKit
set_option linter.unusedVariables false
def LG (r:Nat) (h:H) (e:TypeId) (n:Nat) (f:Nat->Int) (w:Option Addr) (c:Nat):Prop:=(n=1/\w=some ⟨r,0,none⟩/\c=1/\h.get r=some (.cells [.int .i64 (f 0)] e))\/(0<n/\c=0/\N5 r h e 1 n (A0 f n) w)
theorem LG.frame {r n c:Nat}{e:TypeId}{h h':H}{f:Nat->Int}{w:Option Addr}(k:LG r h e n f w c) (hr:h'.get r=h.get r):LG r h' e n f w c:=
 k.elim (fun⟨a,b,c,d⟩=>.inl ⟨a,b,c,hr.trans d⟩) fun⟨h0,hc,G⟩=>.inr ⟨h0,hc,G.frame hr⟩
theorem LG.cap {r n c:Nat}{e:TypeId}{h:H}{f:Nat->Int}{w:Option Addr}(k:LG r h e n f w c):c<far:=by
 rcases k with⟨-, -,rfl, -⟩|⟨-,rfl, -⟩<;>unfold far<;>omega
theorem LG.ints {r n c:Nat}{e:TypeId}{h:H}{f:Nat->Int}{w:Option Addr}(k:LG r h e n f w c):∃a,w=some a/\a.block=r/\Ints h a n f:=by
 rcases k with⟨rfl,rfl,rfl,hg⟩|⟨h0,rfl,G⟩
 ·refine⟨_,rfl,rfl,fun i hi=>?_⟩
  obtain rfl:i=0:=by omega
  exact Di (off:=0) (v:=.int .i64 (f 0)) hg rfl
 ·obtain⟨a,hv,hb,hld, -⟩:=G.load
  refine⟨a,hv,hb,fun i hi=>hld _ _ _ ?_⟩
  have:=EN (g:=fun i=>[Value.int .i64 (f i)]) (w:=1) (fun _=>rfl) hi [] [] (a:=i) (by simp)
  simpa[A0]using this
theorem LG.Af {r n c i:Nat}{e:TypeId}{h:H}{f:Nat->Int}{a:Addr}(k:LG r h e n f (some a) c) (hi:i<n):h.Bu (BI a (i*1)) 1=some [.int .i64 (f i)]:=by
 obtain⟨a',e1, -,j⟩:=k.ints
 cases e1
 rw[Nat.mul_one]
 exact j i hi
section
variable {P:Program}{lo Br:Nat}{ts:Ts}{h:H}{k:Value->H->Prop}
theorem dX {r n bytes c:Nat}{e:TypeId}{f:Nat->Int}{w:Option Addr}{sx x:BH}(G:LG r h e n f w c) (hsv:ev ts sx= .slice w n c) (C:Cells h 1 1 (ev ts x) [.int .i64 (f n)]) (hlo:lo<=Br) (hlr:lo<=r) (hsm:(n+1+1) * (bytes+1)<=1099511627776)
 (hr:∀w' r' h',(r'=r\/r'=Br)->(∀s,s≠r'->h'.get s=h.get s)->h'.next=h.next->LG r' h' e (n+1) f w' 0->k (.slice w' (n+1) 0) h'):DT P lo Br ts h (.append e 1 bytes sx x) k:=by
 have ec:A0 f (n+1)=A0 f n++[.int .i64 (f n)]:=by unfold A0;rfl
 rcases G with⟨rfl,rfl,rfl,hg⟩|⟨h0,rfl,G⟩
 ·apply aK (n:=1) (m:=1) (b:=Br) (cs:=A0 f 1) (nc:=[.int .i64 (f 1)]) (c:=1)
  case hsv=>exact hsv
  case G=>exact⟨by simp[EL],.inr ⟨_,rfl,by unfold far;omega,.inl ⟨rfl,rfl⟩,by rw[show A0 f 1=[.int .i64 (f 0)] by unfold A0;rfl];exact Di (off:=0) (v:=.int .i64 (f 0)) hg rfl⟩⟩
  case C=>exact C
  case hm=>omega
  case hb=>omega
  case hsm=>exact hsm
  intro v' row G'
  obtain⟨r4,G4,hr4,yD⟩:=G'.t6 Al
  obtain rfl:r4=Br:=by omega
  exact hr v' r4 _ (.inr rfl) (fun s hs=>by simp[H.put,hs]) rfl (.inr ⟨by omega,rfl,by rw[ec];exact G4⟩)
 ·apply Sm (r:=r) (n:=n) (m:=1) (cs:=A0 f n) (nc:=[.int .i64 (f n)])
  case hsv=>exact hsv
  case G=>exact G
  case C=>exact C
  case hm=>omega
  case hlo=>exact hlr
  case hsm=>exact hsm
  intro v' row G5
  exact hr v' r _ (.inl rfl) (fun s hs=>by simp[H.put,hs]) rfl (.inr ⟨by omega,rfl,by rw[ec];exact G5⟩)
end
end AE

/- Walks of fair: the fairest line. -/
namespace AE.Tryz
open Go AE Go.Proofs AE.Fair
set_option maxRecDepth 100000
set_option linter.unusedVariables false

theorem _root_.AE.LG.congr {r n c:Nat}{e:TypeId}{h:H}{f g:Nat->Int}{w:Option Addr}(k:LG r h e n f w c) (hfg:∀i,i<n->f i=g i):LG r h e n g w c:=by
 rcases k with⟨rfl,hw,hc,hg⟩|⟨h0,hc,G⟩
 ·exact .inl ⟨rfl,hw,hc,by rw[hg,hfg 0 Al]⟩
 ·refine .inr ⟨h0,hc,?_⟩
  have:A0 f n=A0 g n:=by
   unfold A0
   exact DC n fun i hi=>by rw[hfg i hi]
  rw[<-this]
  exact G
theorem kP (n:Nat):HX (List.replicate 75 (Value.int .i64 0)) n=A0 (fun _=>0) (n*75):=by
 have h1:∀m,A0 (fun _=>0) m=List.replicate m (Value.int .i64 0):=fun m=>by
  unfold A0
  induction m with
  |zero=>rfl
  |succ m ih=>rw[rowsOf,ih,List.replicate_succ']
 rw[h1,J5]
 induction n with
 |zero=>rfl
 |succ n ih=>rw[rowsOf,ih,List.replicate_append_replicate,Nat.succ_mul]
theorem Yh {h:H}{S:Cx}{m:Nat}(hm:m<=h.next) (hS:S.r.Ok m h) (fit:S.Fit):AW Tryz.prog 64 h.next h [.agg ⟨S.cells⟩,.int .i64 1,.int .i64 S.t] (fun v h'=>∃d l,v= .pointer (some ⟨d,0,none⟩)/\h.next<=l/\l<h'.next/\h.next<=d/\d<h'.next/\d≠l/\Ej h' m d l S (fun _=>0)):=by
 have n1:=fit.good.n1
 have n2:=fit.good.n2
 refine Afe.call rfl (Nat.le_refl _) ?_
 unfold a64 Cx.cells
 (focus((try with_reducible apply wpC.to);(repeat'((conv=>whnf);first|refine Ak ?_|refine Ax ?_|fail));all_goals((conv=>whnf);try with_reducible apply At.mk)))
 refine Hr (z:=List.replicate 75 (Value.int .i64 0)) (a:=S.r.n) (b:=S.r.n) (k1:=.i64) (k2:=.i64) rfl rfl (Nat.le_refl _) Al ?_
 rw[kP]
 (focus((try with_reducible apply wpC.to);(repeat'((conv=>whnf);first|refine Ak ?_|refine Ax ?_|fail));all_goals((conv=>whnf);try with_reducible apply At.mk)))
 (refine Au ?_)
 refine⟨h.next+10,h.next+8,rfl,Ah,Ah,Ah,Ah,by omega,fit,hS.same Aq (Nat.le_refl _),by unfold Lf;(exact Aa),Aa,Ah,Ah,fun k hk=>by omega⟩
end AE.Tryz
