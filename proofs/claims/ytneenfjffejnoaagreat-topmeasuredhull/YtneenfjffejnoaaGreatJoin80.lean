/- Walks and plain laws: NTopB2, NTopB3, NTopB4, NTopB5, NTopB6, NTopB7, NTopB8. -/
import Derived.Test.YtneenfjffejnoaaGreatJoin81
import Derived.Test.YtneenfjffejnoaaGreatAEthree
set_option linter.unusedVariables false
set_option linter.unusedSimpArgs false
set_option linter.unusedSectionVars false

/- Walks of box: which hulls are valid. -/
namespace AE.Tryz
open Go AE Go.Proofs AE.Box
set_option maxRecDepth 100000
set_option linter.unusedVariables false

structure C1 where
 sp:Int
 st:Int
 n:Nat
 b:Option Addr
 a:Addr
 c:Nat
 w:Nat->Nat
 rb:Nat->Option Addr
 ra:Nat->Addr
 rc:Nat->Nat
 f:Nat->Nat->Rg
def C1.cells (H:C1):List Value:=[.int .i64 H.sp,.int .i64 H.st,.slice H.b H.n H.c]
structure C1.Ok (H:C1) (m:Nat) (h:AE.H):Prop where
 e:0<H.n->H.b=some H.a
 i:QV h H.a H.n (fun i=>.slice (H.rb i) (H.w i) (H.rc i))
 r:0<H.n->H.a.block<m
 l:H.n<=9223372036854775807
 re:∀i,i<H.n->0<H.w i->H.rb i=some (H.ra i)
 ri:∀i,i<H.n->JP h (H.ra i) (H.w i) 2 (fun k=>(H.f i k).cells)
 rr:∀i,i<H.n->0<H.w i->(H.ra i).block<m
 rl:∀i,i<H.n->H.w i<=9223372036854775807
theorem C1.Ok.same {T:C1}{m m':Nat}{h h':H}(k:T.Ok m h) (s:Same m h h') (hm:m<=m'):T.Ok m' h':=
 ⟨k.e,k.i.same s k.r,fun h=>by have:=k.r h;omega,k.l,k.re,fun i hi=>(k.ri i hi).same s (k.rr i hi),fun i hi h=>by have:=k.rr i hi h;omega,k.rl⟩
def Gk (x:Rg):Prop:=0<=x.lo/\x.lo<=x.hi/\x.hi<=500/\x.hi - x.lo<=20
def C1.Some (H:C1):Prop:=∃i k,i<H.n/\k<H.w 0/\0<(H.f i k).lo
structure C1.Valid (H:C1):Prop where
 n1:2<=H.n
 n2:H.n<=10
 w1:2<=H.w 0
 w2:H.w 0<=6
 eq:∀i,i<H.n->H.w i=H.w 0
 s1:1<=H.sp/\H.sp<=1000
 s2:1<=H.st/\H.st<=100
 pl:∀i k,i<H.n->k<H.w 0->Gk (H.f i k)
 some:H.Some
def C1.FQ (H:C1):Jr:=⟨⟨H.sp,H.st,H.n,H.w 0⟩,fun i k=>(H.f i k).lo,fun i k=>(H.f i k).hi⟩
theorem C1.Valid.FQ {H:C1}(v:H.Valid):H.FQ.Ok:=
 ⟨⟨v.n1,v.n2,v.w1,v.w2,v.s1,v.s2⟩,fun i k hi hk=>v.pl i k hi hk,v.some⟩
theorem jr {h:H}{T:C1}{i j o k:Nat}{l:List Value}(e:JP h (T.ra i) (T.w i) 2 (fun k=>(T.f i k).cells)) (hi:j<T.w i) (hc:cut (T.f i j).cells o k=some l):h.Bu (BI (BI (T.ra i) (j*2)) o) k=some l:=IB (e j hi) hc
theorem Am {G G':Prop}(g:G') (t:G'->G:=by(((with_reducible apply Ei.mk);(focus((repeat(first|(apply jr<;>first|assumption|omega|exact rfl)|with_reducible apply Jl|((with_reducible apply KG);focus(dsimp only[BI];omega))|((with_reducible apply Hq);(focus assumption);focus(dsimp only[BI];omega))|((with_reducible apply IY);(focus assumption);focus(dsimp only[BI];omega))));(first|done|fail)));(focus exact Nj)))):G:=t g

def C1.Qf (H:C1) (i k:Nat):Prop:=∃i' k',i'<H.n/\k'<H.w 0/\(i'<i\/i'=i/\k'<k)/\0<(H.f i' k').lo
theorem C1.Qf.mono {H:C1}{i k i2 k2:Nat}(s:H.Qf i k) (h:i<i2\/i=i2/\k<=k2):H.Qf i2 k2:=
 let⟨i',k',a,b,c,d⟩:=s;⟨i',k',a,b,by omega,d⟩
set_option maxHeartbeats 1000000 in
theorem LD {h:H}{T:C1}{m:Nat}(hm:m<=h.next) (hT:T.Ok m h):AW Tryz.prog 27 h.next h [.agg ⟨T.cells⟩] (fun v _=>∃e:Int,v= .int .i64 e/\(e=0↔T.Valid)):=by
 obtain⟨e1,i1,r1,l1,re,ri,rr,rl⟩:=hT
 refine Aga.call rfl (Nat.le_refl _) ?_
 unfold a27 C1.cells
 by_cases hn:T.n<2\/10<T.n
 ·(focus((try with_reducible apply wpC.to);(repeat'((conv=>whnf);first|refine Ak ?_|(apply Fork.mk<;>(intro _;try(exfalso;omega)))|refine Am ?_|fail));all_goals((conv=>whnf);try with_reducible apply At.mk)))
  all_goals((refine Au ?_);exact⟨_,rfl,fun h=>by omega,fun v=>by have:=v.n1;have:=v.n2;omega⟩)
 by_cases hw:T.w 0<2\/6<T.w 0
 ·(focus((try with_reducible apply wpC.to);(repeat'((conv=>whnf);first|refine Ak ?_|(apply Fork.mk<;>(intro _;try(exfalso;omega)))|refine Am ?_|fail));all_goals((conv=>whnf);try with_reducible apply At.mk)))
  all_goals((refine Au ?_);exact⟨_,rfl,fun h=>by omega,fun v=>by have:=v.w1;have:=v.w2;omega⟩)
 (focus((try with_reducible apply wpC.to);(repeat'((conv=>whnf);first|refine Ak ?_|(apply Fork.mk<;>(intro _;try(exfalso;omega)))|refine Am ?_|fail));all_goals((conv=>whnf);try with_reducible apply At.mk)))
 refine wp_loop (fun s:Nat=>[(1,.pointer (some ⟨h.next,0,none⟩)),(3,.int .i64 T.n),(4,.int .i64 s)]) (fun s h1=>Same h.next h h1/\h.next+1<=h1.next/\h1.get h.next=some (.cells [.int .i64 T.sp,.int .i64 T.st,.slice T.b T.n T.c] 85)/\s<=T.n/\∀i,i<s->T.w i=T.w 0) (fun s=>T.n - s) 0 ⟨rfl,rfl,rfl,trivial⟩ ⟨Aq,Ah,Aa,by omega,fun i hi=>by omega⟩ ?_
 rintro s g h1 ⟨s1,hn1,g1,hs,heq⟩ K hK
 by_cases hsn:s<T.n
 ·by_cases e:T.w s=T.w 0
  ·(focus((try with_reducible apply wpC.to);(repeat'((conv=>whnf);first|refine Ak ?_|(apply Fork.mk<;>(intro _;try(exfalso;omega)))|refine Am ?_|fail));all_goals((conv=>whnf);try with_reducible apply At.mk)))
   exact hK (s+1) _ _ ⟨rfl,rfl,AK rfl Al,trivial⟩ ⟨Aq,Ah,Aa,by omega,fun i hi=>by
    by_cases e:i=s
    ·subst e;assumption
    ·exact heq i Al⟩ Al
  ·(focus((try with_reducible apply wpC.to);(repeat'((conv=>whnf);first|refine Ak ?_|(apply Fork.mk<;>(intro _;try(exfalso;omega)))|refine Am ?_|fail));all_goals((conv=>whnf);try with_reducible apply At.mk)))
   (refine Au ?_)
   exact⟨_,rfl,fun h=>by omega,fun v=>absurd (v.eq s hsn) e⟩
 obtain rfl:s=T.n:=by omega
 clear hK
 by_cases hsp:(1<=T.sp/\T.sp<=1000)/\1<=T.st/\T.st<=100
 ·(focus((try with_reducible apply wpC.to);(repeat'((conv=>whnf);first|refine Ak ?_|(apply Fork.mk<;>(intro _;try(exfalso;omega)))|refine Am ?_|fail));all_goals((conv=>whnf);try with_reducible apply At.mk)))
  have nx:=s1
  refine wp_loop (fun s:Nat × Bool=>[(1,.pointer (some ⟨h.next,0,none⟩)),(3,.int .i64 T.n),(5,.bool s.2),(6,.int .i64 s.1)]) (fun s h2=>Same h.next h h2/\h.next+1<=h2.next/\h2.get h.next=some (.cells [.int .i64 T.sp,.int .i64 T.st,.slice T.b T.n T.c] 85)/\s.1<=T.n/\(∀i k,i<s.1->k<T.w 0->Gk (T.f i k))/\(s.2=true↔T.Qf s.1 0)) (fun s=>T.n - s.1) (0,false) ⟨rfl,rfl,rfl,rfl,trivial⟩ ⟨Aq,Ah,Aa,by simp,fun i k hi=>by simp at hi,⟨fun h=>by simp at h,fun⟨i',k',a,b,c,d⟩=>by dsimp only at c;omega⟩⟩ ?_
  rintro⟨i,sm⟩ g2 h2 ⟨s2,hn2,g2',hi,hall,hsome⟩ K hK
  dsimp only at hi hall hsome
  dsimp only
  by_cases hin:i<T.n
  ·have rei:=re i hin
   have vA:=ri i hin
   have rri:=rr i hin
   have vY:=heq i hin
   (focus((try with_reducible apply wpC.to);(repeat'((conv=>whnf);first|refine Ak ?_|(apply Fork.mk<;>(intro _;try(exfalso;omega)))|refine Am ?_|fail));all_goals((conv=>whnf);try with_reducible apply At.mk)))
   refine wp_loop (fun s:Nat × Bool=>[(1,.pointer (some ⟨h.next,0,none⟩)),(3,.int .i64 T.n),(5,.bool s.2),(6,.int .i64 i),(7,.int .i64 s.1)]) (fun s h3=>Same h.next h h3/\h.next+1<=h3.next/\h3.get h.next=some (.cells [.int .i64 T.sp,.int .i64 T.st,.slice T.b T.n T.c] 85)/\s.1<=T.w 0/\(∀k,k<s.1->Gk (T.f i k))/\(s.2=true↔T.Qf i s.1)) (fun s=>T.w 0 - s.1) (0,sm) ⟨rfl,rfl,rfl,rfl,rfl,trivial⟩ ⟨Aq,Ah,Aa,by simp,fun k hk=>by simp at hk,hsome⟩ ?_
   rintro⟨k,sn⟩ g3 h3 ⟨s3,Lj,g3',hk,yP,nX⟩ K3 hK3
   dsimp only at hk yP nX
   dsimp only
   by_cases fu:k<T.w 0
   ·have hki:k<T.w i:=by omega
    by_cases hp:Gk (T.f i k)
    ·have hp':=hp
     unfold Gk at hp'
     have hnew:∀b:Bool,b=(sn||decide (0<(T.f i k).lo))->(b=true↔T.Qf i (k+1)):=fun b hb=>by
      subst hb
      rw[Bool.or_eq_true,nX,decide_eq_true_eq]
      constructor
      ·rintro(hh|hh)
       ·exact hh.mono Al
       ·exact⟨i,k,hin,fu,by omega,hh⟩
      ·rintro⟨i',k',a,b,c,d⟩
       by_cases e:i'=i/\k'=k
       ·obtain⟨rfl,rfl⟩:=e;exact .inr d
       ·exact .inl ⟨i',k',a,b,by omega,d⟩
     have yO:∀j,j<k+1->Gk (T.f i j):=fun j hj=>by
      by_cases e:j=k
      ·subst e;exact hp
      ·exact yP j Al
     cases sn with
     | true=>
       (focus((try with_reducible apply wpC.to);(repeat'((conv=>whnf);first|refine Ak ?_|(apply Fork.mk<;>(intro _;try(exfalso;omega)))|refine Am ?_|fail));all_goals((conv=>whnf);try with_reducible apply At.mk)))
       all_goals exact hK3 (k+1,true) _ _ ⟨rfl,rfl,rfl,rfl,AK rfl (by dsimp only;omega),trivial⟩ ⟨Aq,Ah,Aa,by dsimp only;omega,yO,hnew true (by simp)⟩ (by dsimp only;omega)
     | false=>
       by_cases h0:0<(T.f i k).lo
       ·(focus((try with_reducible apply wpC.to);(repeat'((conv=>whnf);first|refine Ak ?_|(apply Fork.mk<;>(intro _;try(exfalso;omega)))|refine Am ?_|fail));all_goals((conv=>whnf);try with_reducible apply At.mk)))
        all_goals exact hK3 (k+1,true) _ _ ⟨rfl,rfl,rfl,rfl,AK rfl (by dsimp only;omega),trivial⟩ ⟨Aq,Ah,Aa,by dsimp only;omega,yO,hnew true (by simp[h0])⟩ (by dsimp only;omega)
       ·(focus((try with_reducible apply wpC.to);(repeat'((conv=>whnf);first|refine Ak ?_|(apply Fork.mk<;>(intro _;try(exfalso;omega)))|refine Am ?_|fail));all_goals((conv=>whnf);try with_reducible apply At.mk)))
        all_goals exact hK3 (k+1,false) _ _ ⟨rfl,rfl,rfl,rfl,AK rfl (by dsimp only;omega),trivial⟩ ⟨Aq,Ah,Aa,by dsimp only;omega,yO,hnew false (by simp[h0])⟩ (by dsimp only;omega)
    ·have hbad:¬T.Valid:=fun v=>hp (v.pl i k hin fu)
     unfold Gk at hp
     (focus((try with_reducible apply wpC.to);(repeat'((conv=>whnf);first|refine Ak ?_|(apply Fork.mk<;>(intro _;try(exfalso;omega)))|refine Am ?_|fail));all_goals((conv=>whnf);try with_reducible apply At.mk)))
     all_goals((refine Au ?_);exact⟨_,rfl,fun h=>by omega,fun v=>absurd v hbad⟩)
   ·obtain rfl:k=T.w 0:=by omega
    (focus((try with_reducible apply wpC.to);(repeat'((conv=>whnf);first|refine Ak ?_|(apply Fork.mk<;>(intro _;try(exfalso;omega)))|refine Am ?_|fail));all_goals((conv=>whnf);try with_reducible apply At.mk)))
    refine hK (i+1,sn) _ _ ⟨rfl,rfl,rfl,AK rfl (by dsimp only;omega),trivial⟩ ⟨Aq,Ah,Aa,by dsimp only;omega,fun i' k' hi' hk'=>?_,?_⟩ (by dsimp only;omega)
    ·by_cases e:i'=i
     ·subst e;exact yP k' hk'
     ·exact hall i' k' (by dsimp only at hi';omega) hk'
    ·dsimp only
     rw[nX]
     exact⟨fun hh=>hh.mono Al,fun⟨i',k',a,b,c,d⟩=>⟨i',k',a,b,by omega,d⟩⟩
  ·obtain rfl:i=T.n:=by omega
   cases sm with
   | true=>
     (focus((try with_reducible apply wpC.to);(repeat'((conv=>whnf);first|refine Ak ?_|(apply Fork.mk<;>(intro _;try(exfalso;omega)))|refine Am ?_|fail));all_goals((conv=>whnf);try with_reducible apply At.mk)))
     (refine Au ?_)
     obtain⟨i',k',a,b,c,d⟩:=hsome.1 rfl
     exact⟨_,rfl,fun _=>⟨by omega,by omega,by omega,by omega,heq,hsp.1,hsp.2,hall,⟨i',k',a,b,d⟩⟩,fun _=>rfl⟩
   | false=>
     (focus((try with_reducible apply wpC.to);(repeat'((conv=>whnf);first|refine Ak ?_|(apply Fork.mk<;>(intro _;try(exfalso;omega)))|refine Am ?_|fail));all_goals((conv=>whnf);try with_reducible apply At.mk)))
     (refine Au ?_)
     exact⟨_,rfl,fun h=>by omega,fun v=>by
      obtain⟨i',k',a,b,d⟩:=v.some
      have:=hsome.2 ⟨i',k',a,b,by omega,d⟩
      cases this⟩
 ·(focus((try with_reducible apply wpC.to);(repeat'((conv=>whnf);first|refine Ak ?_|(apply Fork.mk<;>(intro _;try(exfalso;omega)))|refine Am ?_|fail));all_goals((conv=>whnf);try with_reducible apply At.mk)))
  all_goals((refine Au ?_);exact⟨_,rfl,fun h=>by omega,fun v=>by have:=v.s1;have:=v.s2;omega⟩)
end AE.Tryz

/- Walks of box: a valid hull is found valid, a true one true. -/
namespace AE.Tryz
open Go AE Go.Proofs AE.Box
set_option maxRecDepth 100000
set_option linter.unusedVariables false

theorem YK {h:H}{T:C1}{m:Nat}(hm:m<=h.next) (hT:T.Ok m h) {pf:Value}(hy:∀i h1,i<T.n->Quiet h.next h h1->∃v h2,v= .bool false/\CX Tryz.prog pf h1.next h1 [.slice (T.rb i) (T.w i) (T.rc i)] v h2):
 AW Tryz.prog 228 h.next h [.slice T.b T.n T.c,pf] (fun v _=>v= .int .i64 (-1)):=by
 obtain⟨e1,i1,r1,l1, -, -, -, -⟩:=hT
 refine za.call rfl (Nat.le_refl _) ?_
 unfold a228
 (focus((try with_reducible apply wpC.to);(repeat'((conv=>whnf);first|refine Ak ?_|(apply Fork.mk<;>(intro _;try(exfalso;omega)))|((refine AJ ?_);first|((first|apply Ae|apply Ac|apply Ad)<;>intro _ _ _ _<;>try contradiction)|(apply Ab;intro _ _ _))|refine Am ?_|fail));all_goals((conv=>whnf);try with_reducible apply At.mk)))
 refine wp_loop (fun s:Nat=>[(0,.slice T.b T.n T.c),(1,pf),(7,.int .i64 T.n),(8,.int .i64 s)]) (fun s h1=>Quiet h.next h h1/\s<=T.n) (fun s=>T.n - s) 0 ⟨rfl,rfl,rfl,rfl,trivial⟩ ⟨?_,by omega⟩ ?_
 ·(exact AO)
 rintro s g h1 ⟨q,hs⟩ K hK
 have hnx:=q.next
 (focus((try with_reducible apply wpC.to);(repeat'((conv=>whnf);first|refine Ak ?_|(apply Fork.mk<;>(intro _;try(exfalso;omega)))|((refine AJ ?_);first|((first|apply Ae|apply Ac|apply Ad)<;>intro _ _ _ _<;>try contradiction)|(apply Ab;intro _ _ _))|refine Am ?_|fail));all_goals((conv=>whnf);try with_reducible apply At.mk)))
 ·apply Dx
  focus exact CJ (hy s _ Al AO) Ah
  rintro _ h2 rfl q2
  have hnx2:=q2.next
  (focus((try with_reducible apply wpC.to);(repeat'((conv=>whnf);first|refine Ak ?_|(apply Fork.mk<;>(intro _;try(exfalso;omega)))|((refine AJ ?_);first|((first|apply Ae|apply Ac|apply Ad)<;>intro _ _ _ _<;>try contradiction)|(apply Ab;intro _ _ _))|refine Am ?_|fail));all_goals((conv=>whnf);try with_reducible apply At.mk)))
  exact hK (s+1) _ _ ⟨rfl,rfl,rfl,AK rfl Al,trivial⟩ ⟨AO,by omega⟩ Al
 ·(refine Au ?_)
  rfl
theorem kA {h:H}{T:C1}{m:Nat}(hm:m<=h.next) (hT:T.Ok m h) {pf:Value}(hy:∀i h1,i<T.n->Quiet h.next h h1->∃v h2,v= .bool false/\CX Tryz.prog pf h1.next h1 [.slice (T.rb i) (T.w i) (T.rc i)] v h2):
 AW Tryz.prog 143 h.next h [.slice T.b T.n T.c,pf] (fun v _=>v= .bool false):=by
 refine z8.call rfl (Nat.le_refl _) ?_
 unfold a143
 (focus((try with_reducible apply wpC.to);(repeat'((conv=>whnf);first|refine Ak ?_|(apply Fork.mk<;>(intro _;try(exfalso;omega)))|fail));all_goals((conv=>whnf);try with_reducible apply At.mk)))
 apply Ar
 focus(exact Ao)
 focus(exact AQ)
 focus exact YK (m:=m) Ah (hT.same Aq (Nat.le_refl _)) fun i h1 hi q=>hy i h1 hi (Quiet.trans AO (q.mono Ah))
 rintro _ h1 rfl q hn
 (focus((try with_reducible apply wpC.to);(repeat'((conv=>whnf);first|refine Ak ?_|(apply Fork.mk<;>(intro _;try(exfalso;omega)))|fail));all_goals((conv=>whnf);try with_reducible apply At.mk)))
 (refine Au ?_)
 rfl
theorem sU {h:H}{b:Option Addr}{n c r w:Nat}(hg:h.get r=some (.cells [.int .i64 w] 3)) (e:n=w):AW Tryz.prog 144 h.next h [.slice b n c,.pointer (some ⟨r,0,none⟩)] (fun v _=>v= .bool false):=by
 subst e
 refine z6.call rfl (Nat.le_refl _) ?_
 unfold Aij
 (focus((try with_reducible apply wpC.to);(repeat'((conv=>whnf);first|refine Ak ?_|(apply Fork.mk<;>(intro _;try(exfalso;omega)))|refine Am ?_|fail));all_goals((conv=>whnf);try with_reducible apply At.mk)))
 all_goals((refine Au ?_);rfl)

def C1.Aja (H:C1) (i k:Nat) (z:Int):Prop:=∀i' k',i'<H.n->k'<H.w 0->(i'<i\/i'=i/\k'<k)->(H.f i' k').lo<=z
set_option maxHeartbeats 1000000 in
theorem QB {h:H}{T:C1}{m:Nat}(hm:m<=h.next) (hT:T.Ok m h) (V:T.Valid):AW Tryz.prog 70 h.next h [.agg ⟨T.cells⟩] (fun v _=>v= .int .i64 0):=by
 have hT':=hT
 obtain⟨e1,i1,r1,l1,re,ri,rr,rl⟩:=hT
 obtain⟨n1,n2,w1,w2,eq,s1,s2,pl,some⟩:=V
 refine Ae9.call rfl (Nat.le_refl _) ?_
 unfold a70 C1.cells
 (focus((try with_reducible apply wpC.to);(repeat'((conv=>whnf);first|refine Ak ?_|(apply Fork.mk<;>(intro _;try(exfalso;omega)))|((first|refine Co ?_|refine Cq ?_);first|((first|apply Ae|apply Ac|apply Ad)<;>intro _ _ _ _<;>try contradiction)|(apply Ab;intro _ _ _))|refine Am ?_|fail));all_goals((conv=>whnf);try with_reducible apply At.mk)))
 apply Ar
 focus(exact Ao)
 focus(exact AQ)
 focus exact kA (m:=m) Ah (hT'.same Aq (Nat.le_refl _)) fun i h1 hi q=>Ec (sU (w:=T.w 0) ((q.same _ Ah).trans Aa) (eq i hi)) rfl
 rintro _ h1 rfl q1 hn1
 have g1:h1.get h.next= .some (.cells [.int .i64 T.sp,.int .i64 T.st,.slice T.b T.n T.c] 85):=(q1.same _ Ah).trans Aa
 have rK:Same h.next h h1:=fun x hx=>(q1.same x Ah).trans Ep
 have hn1':h.next+10<=h1.next:=by(exact Ah)
 clear q1
 (focus((try with_reducible apply wpC.to);(repeat'((conv=>whnf);first|refine Ak ?_|(apply Fork.mk<;>(intro _;try(exfalso;omega)))|((first|refine Co ?_|refine Cq ?_);first|((first|apply Ae|apply Ac|apply Ad)<;>intro _ _ _ _<;>try contradiction)|(apply Ab;intro _ _ _))|refine Am ?_|fail));all_goals((conv=>whnf);try with_reducible apply At.mk)))
 rename_i h2 q2 hn2 _ h3 q3 Lj _
 have g3:h3.get h.next= .some (.cells [.int .i64 T.sp,.int .i64 T.st,.slice T.b T.n T.c] 85):=(q3.same _ Ah).trans ((Aw fun y hy=>Aa).trans ((q2.same _ Ah).trans Aa))
 have qJ:Same h.next h h3:=fun x hx=>(q3.same x Ah).trans ((Aw fun y hy=>Aa).trans ((q2.same x Ah).trans Ep))
 have bI:h.next+10<=h3.next:=by(exact Ah)
 clear q2 q3
 refine wp_loop (fun s:Nat × Int=>[(1,.pointer (.some ⟨h.next,0,none⟩)),(4,.bool true),(5,.int .i64 s.2),(46,.slice T.b T.n T.c),(47,.int .i64 T.n),(48,.int .i64 s.1)]) (fun s h4=>Same h.next h h4/\h.next+10<=h4.next/\s.1<=T.n/\0<=s.2/\T.Aja s.1 0 s.2) (fun s=>T.n - s.1) (0,0) ⟨rfl,rfl,rfl,rfl,rfl,rfl,trivial⟩ ⟨Aq,Ah,by simp,by simp,fun i' k' a b c=>by dsimp only at c;omega⟩ ?_
 rintro⟨i,z⟩ g4 h4 ⟨sm4,Ng,hi,hz,hup⟩ K hK
 dsimp only at hi hz hup
 dsimp only
 by_cases hin:i<T.n
 ·have rei:=re i hin
  have vA:=ri i hin
  have rri:=rr i hin
  have vY:=eq i hin
  (focus((try with_reducible apply wpC.to);(repeat'((conv=>whnf);first|refine Ak ?_|(apply Fork.mk<;>(intro _;try(exfalso;omega)))|((first|refine Co ?_|refine Cq ?_);first|((first|apply Ae|apply Ac|apply Ad)<;>intro _ _ _ _<;>try contradiction)|(apply Ab;intro _ _ _))|refine Am ?_|fail));all_goals((conv=>whnf);try with_reducible apply At.mk)))
  refine wp_loop (fun s:Nat × Int=>[(1,.pointer (.some ⟨h.next,0,none⟩)),(4,.bool true),(5,.int .i64 s.2),(46,.slice T.b T.n T.c),(47,.int .i64 T.n),(48,.int .i64 i),(52,.slice (T.rb i) (T.w i) (T.rc i)),(53,.int .i64 (T.w i)),(54,.int .i64 s.1)]) (fun s h4=>Same h.next h h4/\h.next+10<=h4.next/\s.1<=T.w 0/\0<=s.2/\T.Aja i s.1 s.2) (fun s=>T.w 0 - s.1) (0,z) ⟨rfl,rfl,rfl,rfl,rfl,rfl,rfl,rfl,rfl,trivial⟩ ⟨Aq,Ah,by simp,hz,hup⟩ ?_
  rintro⟨k,y⟩ g5 h5 ⟨sm5,N4,hk,hy,yx⟩ K5 hK5
  dsimp only at hk hy yx
  dsimp only
  by_cases fu:k<T.w 0
  ·have hki:k<T.w i:=by omega
   have hp':=pl i k hin fu
   unfold Gk at hp'
   (focus((try with_reducible apply wpC.to);(repeat'((conv=>whnf);first|refine Ak ?_|(apply Fork.mk<;>(intro _;try(exfalso;omega)))|((first|refine Co ?_|refine Cq ?_);first|((first|apply Ae|apply Ac|apply Ad)<;>intro _ _ _ _<;>try contradiction)|(apply Ab;intro _ _ _))|refine Am ?_|fail));all_goals((conv=>whnf);try with_reducible apply At.mk)))
   any_goals(exfalso;omega)
   refine hK5 (k+1,max y (T.f i k).lo) _ _ ⟨rfl,rfl,rfl,rfl,rfl,rfl,rfl,rfl,AK rfl (by dsimp only;omega),trivial⟩ ⟨Aq,Ah,by dsimp only;omega,by dsimp only;omega,fun i' k' a b c=>?_⟩ (by dsimp only;omega)
   dsimp only at c⊢
   by_cases e:i'=i/\k'=k
   ·obtain⟨rfl,rfl⟩:=e;omega
   ·have:=yx i' k' a b Al;omega
  ·obtain rfl:k=T.w 0:=by omega
   (focus((try with_reducible apply wpC.to);(repeat'((conv=>whnf);first|refine Ak ?_|(apply Fork.mk<;>(intro _;try(exfalso;omega)))|((first|refine Co ?_|refine Cq ?_);first|((first|apply Ae|apply Ac|apply Ad)<;>intro _ _ _ _<;>try contradiction)|(apply Ab;intro _ _ _))|refine Am ?_|fail));all_goals((conv=>whnf);try with_reducible apply At.mk)))
   refine hK (i+1,y) _ _ ⟨rfl,rfl,rfl,rfl,rfl,AK rfl (by dsimp only;omega),trivial⟩ ⟨Aq,Ah,by dsimp only;omega,hy,fun i' k' a b c=>?_⟩ (by dsimp only;omega)
   dsimp only at c⊢
   exact yx i' k' a b Al
 ·obtain rfl:i=T.n:=by omega
  have hz0:z≠0:=fun e=>by
   obtain⟨i',k',a,b,d⟩:=some
   have:=hup i' k' a b Al
   omega
  (focus((try with_reducible apply wpC.to);(repeat'((conv=>whnf);first|refine Ak ?_|(apply Fork.mk<;>(intro _;try(exfalso;omega)))|((first|refine Co ?_|refine Cq ?_);first|((first|apply Ae|apply Ac|apply Ad)<;>intro _ _ _ _<;>try contradiction)|(apply Ab;intro _ _ _))|refine Am ?_|fail));all_goals((conv=>whnf);try with_reducible apply At.mk)))
  (refine Au ?_)
  rfl
end AE.Tryz

/- Walks of box: offsets within the tolerances of a valid hull are those of a true one. -/
namespace AE.Tryz
open Go AE Go.Proofs AE.Box
set_option maxRecDepth 100000
set_option linter.unusedVariables false

structure Ph where
 n:Nat
 w:Nat
 b:Option Addr
 a:Addr
 c:Nat
 ra:Nat->Addr
 rc:Nat->Nat
 f:Nat->Nat->Int
structure Ph.Ok (Y:Ph) (m:Nat) (h:H):Prop where
 e:0<Y.n->Y.b=some Y.a
 i:QV h Y.a Y.n (fun i=>.slice (some (Y.ra i)) Y.w (Y.rc i))
 r:0<Y.n->Y.a.block<m
 ri:∀i,i<Y.n->Ints h (Y.ra i) Y.w (Y.f i)
 rr:∀i,i<Y.n->(Y.ra i).block<m
theorem Ph.Ok.same {T:Ph}{m m':Nat}{h h':H}(k:T.Ok m h) (s:Same m h h') (hm:m<=m'):T.Ok m' h':=
 ⟨k.e,k.i.same s k.r,fun h=>by have:=k.r h;omega,fun i hi=>(k.ri i hi).same s (fun _=>k.rr i hi),fun i hi=>by have:=k.rr i hi;omega⟩
structure Vy (T:C1) (Y:Ph):Prop where
 v:T.Valid
 n:Y.n=T.n
 w:Y.w=T.w 0
 inn:T.FQ.In Y.f
theorem Vy.at {T:C1}{Y:Ph}(F:Vy T Y) {i k:Nat}(hi:i<T.n) (hk:k<T.w 0):(T.f i k).lo<=Y.f i k/\Y.f i k<=(T.f i k).hi:=F.inn i k hi hk
set_option maxHeartbeats 1000000 in
theorem Zh {h:H}{T:C1}{Y:Ph}{m m':Nat}(hm:m<=h.next) (hm':m'<=h.next) (hT:T.Ok m h) (hY:Y.Ok m' h) (F:Vy T Y):AW Tryz.prog 68 h.next h [.agg ⟨T.cells⟩,.slice Y.b Y.n Y.c] (fun v _=>v= .int .i64 0):=by
 have hT':=hT
 have V:=F.v
 have fn:=F.n
 have fw:=F.w
 obtain⟨e1,i1,r1,l1,re,ri,rr,rl⟩:=hT
 obtain⟨ye,yi,yr,yri,yrr⟩:=hY
 obtain⟨n1,n2,w1,w2,eq,s1,s2,pl,some⟩:=F.v
 refine Afa.call rfl (Nat.le_refl _) ?_
 unfold a68 C1.cells
 (focus((try with_reducible apply wpC.to);(repeat'((conv=>whnf);first|refine Ak ?_|(apply Fork.mk<;>(intro _;try(exfalso;omega)))|((first|refine Co ?_|refine Cq ?_);first|((first|apply Ae|apply Ac|apply Ad)<;>intro _ _ _ _<;>try contradiction)|(apply Ab;intro _ _ _))|refine Am ?_|fail));all_goals((conv=>whnf);try with_reducible apply At.mk)))
 apply Ar
 focus(exact Ao)
 focus(exact AQ)
 focus exact QB (T:=T) (m:=m) Ah (hT'.same Aq (Nat.le_refl _)) V
 rintro _ h1 rfl q1 hn1
 have g1:h1.get h.next= .some (.cells [.int .i64 T.sp,.int .i64 T.st,.slice T.b T.n T.c] 85):=(q1.same _ Ah).trans Aa
 have rK:Same h.next h h1:=fun x hx=>(q1.same x Ah).trans Ep
 have hn1':h.next+2<=h1.next:=by(exact Ah)
 clear q1
 (focus((try with_reducible apply wpC.to);(repeat'((conv=>whnf);first|refine Ak ?_|(apply Fork.mk<;>(intro _;try(exfalso;omega)))|((first|refine Co ?_|refine Cq ?_);first|((first|apply Ae|apply Ac|apply Ad)<;>intro _ _ _ _<;>try contradiction)|(apply Ab;intro _ _ _))|refine Am ?_|fail));all_goals((conv=>whnf);try with_reducible apply At.mk)))
 refine wp_loop (fun s:Nat=>[(2,.pointer (.some ⟨h.next,0,none⟩)),(6,.int .i64 0),(22,.slice Y.b Y.n Y.c),(23,.int .i64 Y.n),(24,.int .i64 s)]) (fun s h4=>Same h.next h h4/\h.next+2<=h4.next/\h4.get h.next= .some (.cells [.int .i64 T.sp,.int .i64 T.st,.slice T.b T.n T.c] 85)/\s<=T.n) (fun s=>T.n - s) 0 ⟨rfl,rfl,rfl,rfl,rfl,trivial⟩ ⟨Aq,Ah,Aa,by simp⟩ ?_
 rintro i g4 h4 ⟨sm4,Ng,g4',hi⟩ K hK
 by_cases hin:i<T.n
 ·have rei:=re i hin
  have vA:=ri i hin
  have rri:=rr i hin
  have vY:=eq i hin
  have yii:=yri i Al
  have Aod:=yrr i Al
  (focus((try with_reducible apply wpC.to);(repeat'((conv=>whnf);first|refine Ak ?_|(apply Fork.mk<;>(intro _;try(exfalso;omega)))|((first|refine Co ?_|refine Cq ?_);first|((first|apply Ae|apply Ac|apply Ad)<;>intro _ _ _ _<;>try contradiction)|(apply Ab;intro _ _ _))|refine Am ?_|fail));all_goals((conv=>whnf);try with_reducible apply At.mk)))
  refine wp_loop (fun s:Nat=>[(2,.pointer (.some ⟨h.next,0,none⟩)),(6,.int .i64 0),(22,.slice Y.b Y.n Y.c),(23,.int .i64 Y.n),(24,.int .i64 i),(7,.int .i64 i),(38,.slice (.some (Y.ra i)) Y.w (Y.rc i)),(39,.int .i64 Y.w),(40,.int .i64 s)]) (fun s h4=>Same h.next h h4/\h.next+2<=h4.next/\h4.get h.next= .some (.cells [.int .i64 T.sp,.int .i64 T.st,.slice T.b T.n T.c] 85)/\s<=T.w 0) (fun s=>T.w 0 - s) 0 ⟨rfl,rfl,rfl,rfl,rfl,rfl,rfl,rfl,rfl,trivial⟩ ⟨Aq,Ah,Aa,by simp⟩ ?_
  rintro k g5 h5 ⟨sm5,N4,g5',hk⟩ K5 hK5
  by_cases fu:k<T.w 0
  ·have hki:k<T.w i:=by omega
   have hp':=F.at hin fu
   have hky:k<Y.w:=by omega
   (focus((try with_reducible apply wpC.to);(repeat'((conv=>whnf);first|refine Ak ?_|(apply Fork.mk<;>(intro _;try(exfalso;omega)))|((first|refine Co ?_|refine Cq ?_);first|((first|apply Ae|apply Ac|apply Ad)<;>intro _ _ _ _<;>try contradiction)|(apply Ab;intro _ _ _))|refine Am ?_|fail));all_goals((conv=>whnf);try with_reducible apply At.mk)))
   exact hK5 (k+1) _ _ ⟨rfl,rfl,rfl,rfl,rfl,rfl,rfl,rfl,AK rfl Al,trivial⟩ ⟨Aq,Ah,Aa,by omega⟩ Al
  ·obtain rfl:k=T.w 0:=by omega
   (focus((try with_reducible apply wpC.to);(repeat'((conv=>whnf);first|refine Ak ?_|(apply Fork.mk<;>(intro _;try(exfalso;omega)))|((first|refine Co ?_|refine Cq ?_);first|((first|apply Ae|apply Ac|apply Ad)<;>intro _ _ _ _<;>try contradiction)|(apply Ab;intro _ _ _))|refine Am ?_|fail));all_goals((conv=>whnf);try with_reducible apply At.mk)))
   exact hK (i+1) _ _ ⟨rfl,rfl,rfl,rfl,AK rfl Al,trivial⟩ ⟨Aq,Ah,Aa,by omega⟩ Al
 ·obtain rfl:i=T.n:=by omega
  (focus((try with_reducible apply wpC.to);(repeat'((conv=>whnf);first|refine Ak ?_|(apply Fork.mk<;>(intro _;try(exfalso;omega)))|((first|refine Co ?_|refine Cq ?_);first|((first|apply Ae|apply Ac|apply Ad)<;>intro _ _ _ _<;>try contradiction)|(apply Ab;intro _ _ _))|refine Am ?_|fail));all_goals((conv=>whnf);try with_reducible apply At.mk)))
  (refine Au ?_)
  rfl
end AE.Tryz

/- Walks of box: all places of a hull, one after the other. -/
namespace AE.Tryz
open Go AE Go.Proofs AE.Box
set_option maxRecDepth 100000
set_option linter.unusedVariables false

def Mw (T:C1) (q:Nat):BQ:=.cells [.int .i64 T.sp,.int .i64 T.st,.slice T.b T.n T.c,.int .i64 q] 244
theorem mC {h:H}{p:Nat}:AW Tryz.prog 141 h.next h [.pointer (some ⟨p,0,none⟩)] (fun v h'=>∃rp rw,v= .func (.func 226) ⟨[]⟩ ⟨[.pointer (some ⟨rp,0,none⟩),.pointer (some ⟨rw,0,none⟩)]⟩/\(h.next<=rp/\rp<h'.next)/\(h.next<=rw/\rw<h'.next)/\
 h'.get rp=some (.cells [.pointer (some ⟨p,0,none⟩)] 242)/\h'.get rw=some (.cells [.func (.func 225) ⟨[.agg ⟨[.int .i64 1,.int .i64 2]⟩]⟩ ⟨[]⟩] 293)):=by
 refine Aaa.call rfl (Nat.le_refl _) ?_
 unfold a141
 (focus((try with_reducible apply wpC.to);(repeat'((conv=>whnf);first|refine Ak ?_|fail));all_goals((conv=>whnf);try with_reducible apply At.mk)))
 (refine Au ?_)
 exact⟨_,_,rfl,⟨Ah,Ah⟩,⟨Ah,Ah⟩,Aa,Aa⟩

structure Aje (h:H) (m rp rw p q:Nat) (T:C1):Prop where
 ok:T.Ok m h
 gp:h.get rp=some (.cells [.pointer (some ⟨p,0,none⟩)] 242)
 gw:h.get rw=some (.cells [.func (.func 225) ⟨[.agg ⟨[.int .i64 1,.int .i64 2]⟩]⟩ ⟨[]⟩] 293)
 pl:h.get p=some (Mw T q)
set_option maxHeartbeats 1000000 in
theorem tA {h:H}{lo:Nat}{yv:Value}{T:C1}{m rp rw p q:Nat}(hlo:lo<=h.next) (V:T.Valid)
 (Inv:Nat->H->Prop) (hs:∀s h1,Inv s h1->Aje h1 m rp rw p q T) (hst:∀s h1 h2,Inv s h1->Quiet h1.next h1 h2->Inv s h2)
 (hy:∀i k h1,i<T.n->k<T.w 0->Inv (i*T.w 0+k) h1->h.next<=h1.next->∃v h2,(v= .bool true/\Inv (i*T.w 0+k+1) h2)/\CX Tryz.prog yv lo h1 [.agg ⟨Nw T.FQ.toGeo i k⟩] v h2) (hz:Inv 0 h):
 AW Tryz.prog 226 lo h [yv,.pointer (some ⟨rp,0,none⟩),.pointer (some ⟨rw,0,none⟩)] (fun _ h'=>Inv (T.n*T.w 0) h'):=by
 obtain⟨n1,n2,w1,w2,eq,s1,s2,pl,some⟩:=V
 refine zf.call rfl hlo ?_
 unfold a226
 have hz':=hst _ _ (h.bump 7) hz ⟨by simp[AY],fun _ _=>rfl,fun hc r hr=>hc r (by simp[AY]at hr;omega)⟩
 obtain⟨⟨e1,i1,r1,l1,re,ri,rr,rl⟩,gp,gw,tY⟩:=hs _ _ hz
 unfold Mw at tY
 (focus((try with_reducible apply wpC.to);(repeat'((conv=>whnf);first|refine Ak ?_|(apply Fork.mk<;>(intro _;try(exfalso;omega)))|((refine AJ ?_);first|((first|apply Ae|apply Ac|apply Ad)<;>intro _ _ _ _<;>try contradiction)|(apply Ab;intro _ _ _))|refine Am ?_|fail));all_goals((conv=>whnf);try with_reducible apply At.mk)))
 clear i1 r1 ri rr gp gw tY
 refine wp_loop (fun s:Nat=>[(0,yv),(1,.pointer (.some ⟨rp,0,none⟩)),(2,.pointer (.some ⟨rw,0,none⟩)),(12,.slice T.b T.n T.c),(13,.int .i64 T.n),(14,.int .i64 s)]) (fun s h1=>Inv (s*T.w 0) h1/\Quiet lo h h1/\h.next<=h1.next/\s<=T.n) (fun s=>T.n - s) 0 ⟨rfl,rfl,rfl,rfl,rfl,rfl,trivial⟩ ⟨by rw[Nat.zero_mul];exact hz',AO,Ah,by omega⟩ ?_
 clear hz hz'
 rintro i g1 h1 ⟨iv1,q1,hn1,hi⟩ K hK
 have ZM:∀{s:Nat} {h1:H} (k:Nat),Inv s h1->Inv s (h1.bump k):=fun k iv=>hst _ _ _ iv ⟨by simp[AY],fun _ _=>rfl,fun hc r hr=>hc r (by simp[AY]at hr;omega)⟩
 by_cases hin:i<T.n
 ·have rei:=re i hin
  have vY:=eq i hin
  obtain⟨⟨-,i1, -, -, -,ri, -, -⟩,gp,gw,tY⟩:=hs _ _ iv1
  have vA:=ri i hin
  (focus((try with_reducible apply wpC.to);(repeat'((conv=>whnf);first|refine Ak ?_|(apply Fork.mk<;>(intro _;try(exfalso;omega)))|((refine AJ ?_);first|((first|apply Ae|apply Ac|apply Ad)<;>intro _ _ _ _<;>try contradiction)|(apply Ab;intro _ _ _))|refine Am ?_|fail));all_goals((conv=>whnf);try with_reducible apply At.mk)))
  clear i1 vA ri gp gw tY
  refine wp_loop (fun s:Nat=>[(0,yv),(1,.pointer (.some ⟨rp,0,none⟩)),(2,.pointer (.some ⟨rw,0,none⟩)),(12,.slice T.b T.n T.c),(13,.int .i64 T.n),(14,.int .i64 i),(4,.int .i64 i),(5,.slice (T.rb i) (T.w i) (T.rc i)),(20,.int .i64 (T.w i)),(21,.int .i64 s)]) (fun s h1=>Inv (i*T.w 0+s) h1/\Quiet lo h h1/\h.next<=h1.next/\s<=T.w 0) (fun s=>T.w 0 - s) 0 ⟨rfl,rfl,rfl,rfl,rfl,rfl,rfl,rfl,rfl,rfl,trivial⟩ ⟨by first|exact ZM _ iv1|exact ZM _ (ZM _ iv1)|exact ZM _ (ZM _ (ZM _ iv1)),AO,Ah,by omega⟩ ?_
  rintro k g2 h2 ⟨iv2,q2,hn2,hk⟩ K2 hK2
  by_cases fu:k<T.w 0
  ·obtain⟨⟨-,i1, -, -, -,ri, -, -⟩,gp,gw,tY⟩:=hs _ _ iv2
   unfold Mw at tY
   (focus((try with_reducible apply wpC.to);(repeat'((conv=>whnf);first|refine Ak ?_|(apply Fork.mk<;>(intro _;try(exfalso;omega)))|((refine AJ ?_);first|((first|apply Ae|apply Ac|apply Ad)<;>intro _ _ _ _<;>try contradiction)|(apply Ab;intro _ _ _))|refine Am ?_|fail));all_goals((conv=>whnf);try with_reducible apply At.mk)))
   apply Ar
   focus(exact Ao)
   focus(exact AQ)
   focus exact XB (i:=i) (n:=T.n) n1 Al hin
   rintro _ h3 rfl q3 Lj
   have q23:Quiet h2.next h2 h3:=by(exact AO)
   have vH:=hst _ _ h3 iv2 q23
   have q3':Quiet lo h h3:=by(exact AO)
   have bI:h.next<=h3.next:=by(exact Ah)
   clear i1 ri gp gw tY iv2 q23 q3 Lj hn2
   obtain⟨⟨-,i1, -, -, -,ri, -, -⟩,gp,gw,tY⟩:=hs _ _ vH
   (focus((try with_reducible apply wpC.to);(repeat'((conv=>whnf);first|refine Ak ?_|(apply Fork.mk<;>(intro _;try(exfalso;omega)))|((refine AJ ?_);first|((first|apply Ae|apply Ac|apply Ad)<;>intro _ _ _ _<;>try contradiction)|(apply Ab;intro _ _ _))|refine Am ?_|fail));all_goals((conv=>whnf);try with_reducible apply At.mk)))
   apply Ar
   focus(exact Ao)
   focus(exact AQ)
   focus(rw[vY];exact XB (i:=k) (n:=T.w 0) w1 Al fu)
   rintro _ h4 rfl q4 Ng
   have q34:Quiet h3.next h3 h4:=by(exact AO)
   have iv4:=hst _ _ h4 vH q34
   have q4':Quiet lo h h4:=by(exact AO)
   have tO:h.next<=h4.next:=by(exact Ah)
   clear i1 ri gp gw tY vH q34 q4 Ng bI q3' q2
   have hv:=E6 (a:=wt i T.n) (b:=wt k (T.w 0)) (A:=2) (B:=2) (by have:=MZ i T.n;omega) (by have:=MZ k (T.w 0);omega)
   have hyk:=fun h5 iv N4=>hy i k h5 hin fu iv N4
   by_cases hk1:k+1=T.w 0
   ·have hpc:Nw T.FQ.toGeo i k=[.int .i64 i,.int .i64 k,.int .i64 (wt i T.n*wt k (T.w 0)),.int .i64 (wt i T.n),.bool true]:=by
     unfold Nw
     rw[show decide (k+1=T.FQ.toGeo.w)=true from decide_eq_true hk1]
     rfl
    rw[hpc]at hyk
    (focus((try with_reducible apply wpC.to);(repeat'((conv=>whnf);first|refine Ak ?_|(apply Fork.mk<;>(intro _;try(exfalso;omega)))|((refine AJ ?_);first|((first|apply Ae|apply Ac|apply Ad)<;>intro _ _ _ _<;>try contradiction)|(apply Ab;intro _ _ _))|refine Am ?_|fail));all_goals((conv=>whnf);try with_reducible apply At.mk)))
    apply Dx
    focus exact hyk _ (hst _ _ _ iv4 AO) Ah
    rintro _ h5 ⟨rfl,yb⟩ q5
    have N4:=q5.next
    (focus((try with_reducible apply wpC.to);(repeat'((conv=>whnf);first|refine Ak ?_|(apply Fork.mk<;>(intro _;try(exfalso;omega)))|((refine AJ ?_);first|((first|apply Ae|apply Ac|apply Ad)<;>intro _ _ _ _<;>try contradiction)|(apply Ab;intro _ _ _))|refine Am ?_|fail));all_goals((conv=>whnf);try with_reducible apply At.mk)))
    exact hK2 (k+1) _ _ ⟨rfl,rfl,rfl,rfl,rfl,rfl,rfl,rfl,rfl,AK rfl Al,trivial⟩ ⟨hst _ _ _ yb AO,AO,Ah,by omega⟩ Al
   ·have hpc:Nw T.FQ.toGeo i k=[.int .i64 i,.int .i64 k,.int .i64 (wt i T.n*wt k (T.w 0)),.int .i64 (wt i T.n),.bool false]:=by
     unfold Nw
     rw[show decide (k+1=T.FQ.toGeo.w)=false from decide_eq_false hk1]
     rfl
    rw[hpc]at hyk
    (focus((try with_reducible apply wpC.to);(repeat'((conv=>whnf);first|refine Ak ?_|(apply Fork.mk<;>(intro _;try(exfalso;omega)))|((refine AJ ?_);first|((first|apply Ae|apply Ac|apply Ad)<;>intro _ _ _ _<;>try contradiction)|(apply Ab;intro _ _ _))|refine Am ?_|fail));all_goals((conv=>whnf);try with_reducible apply At.mk)))
    apply Dx
    focus exact hyk _ (hst _ _ _ iv4 AO) Ah
    rintro _ h5 ⟨rfl,yb⟩ q5
    have N4:=q5.next
    (focus((try with_reducible apply wpC.to);(repeat'((conv=>whnf);first|refine Ak ?_|(apply Fork.mk<;>(intro _;try(exfalso;omega)))|((refine AJ ?_);first|((first|apply Ae|apply Ac|apply Ad)<;>intro _ _ _ _<;>try contradiction)|(apply Ab;intro _ _ _))|refine Am ?_|fail));all_goals((conv=>whnf);try with_reducible apply At.mk)))
    exact hK2 (k+1) _ _ ⟨rfl,rfl,rfl,rfl,rfl,rfl,rfl,rfl,rfl,AK rfl Al,trivial⟩ ⟨hst _ _ _ yb AO,AO,Ah,by omega⟩ Al
  ·obtain rfl:k=T.w 0:=by omega
   (focus((try with_reducible apply wpC.to);(repeat'((conv=>whnf);first|refine Ak ?_|(apply Fork.mk<;>(intro _;try(exfalso;omega)))|((refine AJ ?_);first|((first|apply Ae|apply Ac|apply Ad)<;>intro _ _ _ _<;>try contradiction)|(apply Ab;intro _ _ _))|refine Am ?_|fail));all_goals((conv=>whnf);try with_reducible apply At.mk)))
   refine hK (i+1) _ _ ⟨rfl,rfl,rfl,rfl,rfl,AK rfl Al,trivial⟩ ⟨?_,AO,Ah,by omega⟩ Al
   rw[Nat.succ_mul]
   exact hst _ _ _ iv2 AO
 ·obtain rfl:i=T.n:=by omega
  (focus((try with_reducible apply wpC.to);(repeat'((conv=>whnf);first|refine Ak ?_|(apply Fork.mk<;>(intro _;try(exfalso;omega)))|((refine AJ ?_);first|((first|apply Ae|apply Ac|apply Ad)<;>intro _ _ _ _<;>try contradiction)|(apply Ab;intro _ _ _))|refine Am ?_|fail));all_goals((conv=>whnf);try with_reducible apply At.mk)))
  (refine Au ?_)
  exact hst _ _ _ iv1 AO
end AE.Tryz

/- Walks of box: the volume of a true hull. -/
namespace AE.Tryz
open Go AE Go.Proofs AE.Box
set_option maxRecDepth 100000
set_option linter.unusedVariables false

theorem aB {lo:Nat}{h h1 h2:H}(s:Same lo h h1) (q:Quiet h1.next h1 h2) (hl:lo<=h1.next):Same lo h h2:=fun x hx=>(q.same x Al).trans (s x hx)
theorem Fg {G G':Prop}(g:G') (t:G'->G:=by((apply Ar);(focus exact Ao);(focus exact AQ);(focus((apply bX;(focus omega);(focus omega)))))):G:=t g
set_option maxHeartbeats 1000000 in
theorem RG {h:H}{T:C1}{Y:Ph}{m m':Nat}(hm:m<=h.next) (hm':m'<=h.next) (hT:T.Ok m h) (hY:Y.Ok m' h) (F:Vy T Y):AW Tryz.prog 69 h.next h [.agg ⟨T.cells⟩,.slice Y.b Y.n Y.c] (fun v _=>v= .agg ⟨oN (fr (T.sp*T.st*T.FQ.VF Y.f) 2)⟩):=by
 have V:=F.v
 have fn:=F.n
 have fw:=F.w
 have nw:=V.FQ.nw
 have n1:=V.n1
 have n2:=V.n2
 have w1:=V.w1
 have w2:=V.w2
 have s1:=V.s1
 have s2:=V.s2
 have ye:=hY.e
 refine vT.call rfl (Nat.le_refl _) ?_
 unfold a69 C1.cells
 (focus((try with_reducible apply wpC.to);(repeat'((conv=>whnf);first|refine Ak ?_|((refine Fg ?_);first|((first|apply Ae|apply Ac|apply Ad)<;>intro _ _ _ _<;>try contradiction)|(apply Ab;intro _ _ _))|refine Am ?_|fail));all_goals((conv=>whnf);try with_reducible apply At.mk)))
 apply Ar
 focus(exact Ao)
 focus(exact AQ)
 focus exact mC
 rintro _ h1 ⟨rp,aC,rfl,⟨a1,a2⟩,⟨a3,a4⟩,a5,a6⟩ q1 hn1
 have a1':h.next+11<=rp:=by(exact Ah)
 have a3':h.next+11<=aC:=by(exact Ah)
 have g1:h1.get h.next=some (.cells [.int .i64 T.sp,.int .i64 T.st,.slice T.b T.n T.c] 85):=(q1.same _ Ah).trans Aa
 have g2:h1.get (h.next+1)=some (.cells [.slice Y.b Y.n Y.c] 89):=(q1.same _ Ah).trans Aa
 have g3:h1.get (h.next+2)=some (.cells [.int .i64 0,.int .i64 0] 57):=(q1.same _ Ah).trans Aa
 have g5:h1.get (h.next+5)=some (Mw T 0):=(q1.same _ Ah).trans (by unfold Mw;(exact Aa))
 have g7:h1.get (h.next+7)=some (.cells [.int .i64 0] 2):=(q1.same _ Ah).trans Aa
 have sm:Same h.next h h1:=fun x hx=>(q1.same x Ah).trans Ep
 have hn1':h.next+11<=h1.next:=by(exact Ah)
 clear q1
 (focus((try with_reducible apply wpC.to);(repeat'((conv=>whnf);first|refine Ak ?_|((refine Fg ?_);first|((first|apply Ae|apply Ac|apply Ad)<;>intro _ _ _ _<;>try contradiction)|(apply Ab;intro _ _ _))|refine Am ?_|fail));all_goals((conv=>whnf);try with_reducible apply At.mk)))
 refine Dq (l:=[(2,.pointer (some ⟨h.next,0,none⟩)),(3,.pointer (some ⟨h.next+1,0,none⟩)),(4,.pointer (some ⟨h.next+2,0,none⟩)),(6,.pointer (some ⟨h.next+7,0,none⟩)),(12,.func (.func 226) ⟨[]⟩ ⟨[.pointer (some ⟨rp,0,none⟩),.pointer (some ⟨aC,0,none⟩)]⟩)]) ⟨rfl,rfl,rfl,rfl,rfl,trivial⟩ fun g'=>?_
 apply IK
 focus exact rfl
 focus(exact Ao)
 focus(exact Jk)
 intro L0 hL0
 have gv:=V.FQ.toOk
 refine⟨_,tA (m:=m) (p:=h.next+5) (q:=0) (T:=T) Ah V
  (fun s h2=>Same h.next h h2/\(h2.get rp=some (.cells [.pointer (some ⟨h.next+5,0,none⟩)] 242)/\h2.get aC=some (.cells [.func (.func 225) ⟨[.agg ⟨[.int .i64 1,.int .i64 2]⟩]⟩ ⟨[]⟩] 293)/\h2.get (h.next+5)=some (Mw T 0))/\h2.get h.next=some (.cells [.int .i64 T.sp,.int .i64 T.st,.slice T.b T.n T.c] 85)/\
   h2.get (h.next+1)=some (.cells [.slice Y.b Y.n Y.c] 89)/\h2.get (h.next+2)=some (.cells [.int .i64 0,.int .i64 0] 57)/\h2.get (h.next+7)=some (.cells [.int .i64 (Ho (fun i k=>T.FQ.wy i k (Y.f i k)) (T.w 0) s)] 2)/\h2.get h1.next=some (.loop L0)/\h1.next<h2.next) ?_ ?_ ?_ ?_,?_⟩
 ·rintro s h2 ⟨b1,⟨b2,b3,b4⟩, -⟩
  exact⟨hT.same (b1.mono hm) (Nat.le_refl _),b2,b3,b4⟩
 ·rintro s h2 h3 ⟨b1,⟨b2,b3,b4⟩,b5,b6,b7,b8,b9,b10⟩ q
  have:=q.next
  exact⟨aB b1 q Al,⟨(q.same _ Al).trans b2,(q.same _ Al).trans b3,(q.same _ Al).trans b4⟩,(q.same _ Al).trans b5,(q.same _ Al).trans b6,(q.same _ Al).trans b7,(q.same _ Al).trans b8,(q.same _ Al).trans b9,by omega⟩
 ·rintro i k h2 hi hk ⟨b1,⟨b2,b3,b4⟩,b5,b6,b7,b8,b9,b10⟩ hle
  have hY2:=hY.same (b1.mono hm') (m':=h.next) hm'
  have yi:=hY2.i
  have yr:=hY2.r
  have yri:=hY2.ri i Al
  have yrr:=hY2.rr i Al
  have hky:k<Y.w:=by omega
  have hiy:i<Y.n:=by omega
  have hy:=V.FQ.yin F.inn hi hk
  have st:=(gv.steps hi hk hy).wy
  have vb:=V.FQ.VD F.inn (p:=i*T.w 0+k) (Nat.le_of_lt (Yb hi hk))
  have vc:=V.FQ.VD F.inn (p:=i*T.w 0+k+1) (Yb hi hk)
  have en:Ho (fun i k=>T.FQ.wy i k (Y.f i k)) (T.w 0) (i*T.w 0+k+1)=Ho (fun i k=>T.FQ.wy i k (Y.f i k)) (T.w 0) (i*T.w 0+k)+wt i T.FQ.n*wt k T.FQ.w*Y.f i k:=ik _ hk
  rw[show T.FQ.w=T.w 0 from rfl]at vb vc
  rw[en]at vc⊢
  generalize Ho (fun i k=>T.FQ.wy i k (Y.f i k)) (T.w 0) (i*T.w 0+k)=S at vb vc b8⊢
  refine YA.call vT.mixed (A:=gj) (B:=fZ) (L:=L0) (by rw[hL0];exact Ag4) (by rw[hL0];exact Ag3) b9 Al Al (by rw[hL0];exact rfl) (by rw[hL0];exact rfl) ?_
  unfold YA gj
  refine Dq (l:=[(3,.pointer (some ⟨h.next+1,0,none⟩)),(6,.pointer (some ⟨h.next+7,0,none⟩)),(13,.agg ⟨Nw T.FQ.toGeo i k⟩)]) ⟨by rw[hL0];exact rfl,by rw[hL0];exact rfl,by rw[hL0];exact rfl,trivial⟩ fun g''=>?_
  unfold Nw
  (focus((try with_reducible apply wpC.to);(repeat'((conv=>whnf);first|refine Ak ?_|((refine Fg ?_);first|((first|apply Ae|apply Ac|apply Ad)<;>intro _ _ _ _<;>try contradiction)|(apply Ab;intro _ _ _))|refine Am ?_|fail));all_goals((conv=>whnf);try with_reducible apply At.mk)))
  refine⟨rfl,L0,Aa,by rw[hL0];exact rfl,?_⟩
  unfold fZ
  have hL1:ended (busy L0) .none=L0:=by rw[hL0];exact rfl
  (focus((try with_reducible apply wpC.to);(repeat'((conv=>whnf);first|refine Ak ?_|((refine Fg ?_);first|((first|apply Ae|apply Ac|apply Ad)<;>intro _ _ _ _<;>try contradiction)|(apply Ab;intro _ _ _))|refine Am ?_|fail));all_goals((conv=>whnf);try with_reducible apply At.mk)))
  refine⟨.none,_,rfl,Aa,rfl,?_⟩
  rw[hL1]
  exact⟨Aq,⟨Aa,Aa,Aa⟩,Aa,Aa,Aa,Aa,Aa,Ah⟩
 ·exact⟨Aq,⟨Aa,Aa,Aa⟩,Aa,Aa,Aa,by rw[ij];(exact Aa),Aa,Ah⟩
 ·rintro v h2 ⟨b1,⟨b2,b3,b4⟩,b5,b6,b7,b8,b9,b10⟩ q
  have vb:0<=T.FQ.VF Y.f/\T.FQ.VF Y.f<=120000:=V.FQ.VD F.inn (p:=T.FQ.n*T.FQ.w) (Nat.le_refl _)
  have b8:h2.get (h.next+7)=some (.cells [.int .i64 (T.FQ.VF Y.f)] 2):=b8
  have p1:=E6 (a:=T.sp) (b:=T.st) (A:=1000) (B:=100) Al Al
  have p2:=E6 p1 vb
  refine⟨_,b9,by rw[hL0];simp[EX],?_⟩
  rw[hL0]
  simp only[EX,FU]
  (focus((try with_reducible apply wpC.to);(repeat'((conv=>whnf);first|refine Ak ?_|((refine Fg ?_);first|((first|apply Ae|apply Ac|apply Ad)<;>intro _ _ _ _<;>try contradiction)|(apply Ab;intro _ _ _))|refine Am ?_|fail));all_goals((conv=>whnf);try with_reducible apply At.mk)))
  (refine Au ?_)
  rfl
end AE.Tryz

/- Walks of box: what is asked of a true hull. -/
namespace AE.Tryz
open Go AE Go.Proofs AE.Box
set_option maxRecDepth 100000
set_option linter.unusedVariables false

end AE.Tryz

/- Walks of box: offsets of one's own. -/
namespace AE.Tryz
open Go AE Go.Proofs AE.Box
set_option maxRecDepth 100000
set_option linter.unusedVariables false

theorem su {P:Program}{lo nb:Nat}{q:Bool}{h:H}{fv:Value}{args:List Value}{k:Value->H->Prop}{R:Value->H->Prop}(en:h.next=nb) (hlo:lo<=nb) (hc:∃v h',R v h'/\CX P fv h.next h args v h') (hr:∀v h',R v h'->Quiet nb h h'->nb<=h'.next->k v h'):gH P fv lo q h args k:=by
 obtain⟨v,h',r,a⟩:=hc
 subst en
 have hq:=a.quiet
 exact .mk (a.mono (by split<;>omega)) (hr v h' r hq hq.next)
theorem Ab9 {l l':List Value}(h:l=l'):Is l l':=h▸Is.rfl
structure Own (lo N:Nat) (h:H) (n w:Nat) (rr:Nat->Nat) (f:Nat->Nat->Int) (r:Nat) (v:Option Addr):Prop where
 row:∀i,i<n->h.get (rr i)=some (.cells (A0 (f i) w) 2)
 rng:∀i,i<n->lo<=rr i/\rr i<N
 inj:∀i j,i<n->j<n->rr i=rr j->i=j
 out:GG r h 37 1 n (rowsOf (fun i=>[.slice (some ⟨rr i,0,none⟩) w w]) n) v
 org:0<n->(lo<=r/\r<N)/\∀i,i<n->rr i≠r
theorem Own.nil {lo N:Nat}{h:H}{w:Nat}{rr:Nat->Nat}{f:Nat->Nat->Int}{r:Nat}:Own lo N h 0 w rr f r none:=
 ⟨fun i hi=>by omega,fun i hi=>by omega,fun i j hi=>by omega,GG.nil,fun h=>by omega⟩
theorem Own.frame {lo N N':Nat}{h h':H}{n w:Nat}{rr:Nat->Nat}{f:Nat->Nat->Int}{r:Nat}{v:Option Addr}(k:Own lo N h n w rr f r v) (hN:N<=N') (hs:∀x,lo<=x->x<N->h'.get x=h.get x):Own lo N' h' n w rr f r v:=
 ⟨fun i hi=>(hs _ (k.rng i hi).1 (k.rng i hi).2).trans (k.row i hi),fun i hi=>by have:=k.rng i hi;omega,k.inj,k.out.frame fun h0=>hs _ (k.org h0).1.1 (k.org h0).1.2,fun h0=>⟨by have:=(k.org h0).1;omega,(k.org h0).2⟩⟩
theorem Own.lower {lo lo' N:Nat}{h:H}{n w:Nat}{rr:Nat->Nat}{f:Nat->Nat->Int}{r:Nat}{v:Option Addr}(k:Own lo N h n w rr f r v) (hl:lo'<=lo):Own lo' N h n w rr f r v:=
 ⟨k.row,fun i hi=>by have:=k.rng i hi;omega,k.inj,k.out,fun h0=>⟨by have:=(k.org h0).1;omega,(k.org h0).2⟩⟩
theorem Own.congr {lo N:Nat}{h:H}{n w:Nat}{rr:Nat->Nat}{f g:Nat->Nat->Int}{r:Nat}{v:Option Addr}(k:Own lo N h n w rr f r v) (hfg:∀i j,i<n->j<w->f i j=g i j):Own lo N h n w rr g r v:=
 ⟨fun i hi=>by
  rw[k.row i hi]
  have:A0 (f i) w=A0 (g i) w:=by unfold A0;exact DC w fun j hj=>by rw[hfg i j hi hj]
  rw[this],k.rng,k.inj,k.out,k.org⟩
theorem Own.grid {lo N:Nat}{h:H}{n w:Nat}{rr:Nat->Nat}{f:Nat->Nat->Int}{r:Nat}{v:Option Addr}(k:Own lo N h n w rr f r v) (h0:0<n):
 ∃a,v=some a/\(⟨n,w,some a,a,0,fun i=>⟨rr i,0,none⟩,fun _=>w,f⟩:Ph).Ok N h:=by
 obtain⟨a,hw,e,b⟩:=k.out.els (f:=fun i=>[.slice (some ⟨rr i,0,none⟩) w w]) fun _=>rfl
 refine⟨a,hw h0,fun _=>rfl,fun i hi=>?_,fun _=>by have:=b h0;have:=(k.org h0).1;dsimp only;omega,fun i hi=>JH (k.row i hi),fun i hi=>(k.rng i hi).2⟩
 have:=e i hi
 rw[Nat.mul_one]at this
 exact this
def Gx (M:Nat->Nat->Int) (i j:Nat) (v:Int):Nat->Nat->Int:=fun i' j'=>if i'=i/\j'=j then v else M i' j'
theorem Own.set {lo N:Nat}{h:H}{n w:Nat}{rr:Nat->Nat}{f:Nat->Nat->Int}{r:Nat}{v:Option Addr}(k:Own lo N h n w rr f r v) {i j:Nat}(hi:i<n) (hj:j<w) (y:Int):
 Own lo N (h.put (rr i) (.cells (A0 (F7 (f i) j y) w) 2)) n w rr (Gx f i j y) r v:=by
 have e:∀i',i'<n->Gx f i j y i'=if i'=i then F7 (f i) j y else f i':=fun i' _=>by
  funext x
  unfold Gx F7
  by_cases h1:i'=i
  ·subst h1;simp
  ·simp[h1]
 refine⟨fun i' hi'=>?_,k.rng,k.inj,k.out.frame fun h0=>?_,k.org⟩
 ·rw[e i' hi']
  by_cases h1:i'=i
  ·subst h1;simp[H.put]
  ·have:rr i'≠rr i:=fun h2=>h1 (k.inj _ _ hi' hi h2)
   simp[H.put,h1,this,k.row i' hi']
 ·have:=(k.org h0).2 i hi
  simp only[H.put]
  rw[if_neg (fun h2=>this h2.symm)]
theorem Own.next {lo N N':Nat}{h h':H}{n w:Nat}{rr:Nat->Nat}{f:Nat->Nat->Int}{r r' x:Nat}{v v':Option Addr}(k:Own lo N h n w rr f r v) (hN:N<=N') (hlN:lo<=N) (hs:∀x,lo<=x->x<N->(0<n->x≠r)->h'.get x=h.get x)
 (hx:h'.get x=some (.cells (A0 (f n) w) 2)) (rx:N<=x/\x<N') (G:GG r' h' 37 1 (n+1) (rowsOf (fun i=>[.slice (some ⟨rr i,0,none⟩) w w]) n++[.slice (some ⟨x,0,none⟩) w w]) v') (hr:(0<n->r'=r)/\(n=0->N<=r'/\r'<N'/\r'≠x)):
 Own lo N' h' (n+1) w (fun i=>if i=n then x else rr i) f r' v':=by
 have hrr:∀i,i<n->(if i=n then x else rr i)=rr i:=fun i hi=>if_neg Al
 refine⟨fun i hi=>?_,fun i hi=>?_,fun i j hi hj e=>?_,?_,fun _=>⟨?_,fun i hi=>?_⟩⟩
 ·by_cases e:i=n
  ·subst e;rw[if_pos rfl];exact hx
  ·rw[if_neg e]
   have:=k.rng i Al
   exact(hs _ this.1 this.2 fun h0=>(k.org h0).2 i Al).trans (k.row i Al)
 ·by_cases e:i=n
  ·subst e;rw[if_pos rfl];omega
  ·rw[if_neg e];have:=k.rng i Al;omega
 ·by_cases e1:i=n
  ·by_cases e2:j=n
   ·omega
   ·rw[if_pos e1,if_neg e2]at e;have:=k.rng j Al;omega
  ·by_cases e2:j=n
   ·rw[if_neg e1,if_pos e2]at e;have:=k.rng i Al;omega
   ·rw[if_neg e1,if_neg e2]at e;exact k.inj i j Al Al e
 ·have:rowsOf (fun i=>[Value.slice (some ⟨if i=n then x else rr i,0,none⟩) w w]) (n+1)=rowsOf (fun i=>[Value.slice (some ⟨rr i,0,none⟩) w w]) n++[.slice (some ⟨x,0,none⟩) w w]:=by
   rw[rowsOf,if_pos rfl]
   congr 1
   exact DC n fun i hi=>by rw[hrr i hi]
  rw[this]
  exact G
 ·rcases Nat.eq_zero_or_pos n with h0|h0
  ·have:=hr.2 h0;omega
  ·have:=hr.1 h0;have:=(k.org h0).1;omega
 ·by_cases e:i=n
  ·rw[if_pos e]
   rcases Nat.eq_zero_or_pos n with h0|h0
   ·have:=hr.2 h0;omega
   ·have:=hr.1 h0;have:=(k.org h0).1;omega
  ·rw[if_neg e]
   have:=hr.1 Al
   rw[this]
   exact(k.org Al).2 i Al

theorem wK (n:Nat):HX [Value.int .i64 0] n=A0 (fun _=>0) n:=by rw[J5];unfold A0;rfl
structure PkS where
 i:Nat
 rr:Nat->Nat
 r:Nat
 v:Option Addr
def upto (g:Nat->Int) (k:Nat):Nat->Int:=fun j=>if j<k then g j else 0
theorem gV (g:Nat->Int) (k:Nat):F7 (upto g k) k (g k)=upto g (k+1):=by
 funext j
 unfold F7 upto
 by_cases h1:j=k
 ·subst h1;simp
 ·by_cases h2:j<k
  ·simp[h1,h2,Nat.lt_succ_of_lt h2]
  ·rw[if_neg h1,if_neg h2,if_neg Al]
theorem lE (g:Nat->Int) (w:Nat):A0 (upto g w) w=A0 g w:=by
 unfold A0
 exact DC w fun j hj=>by unfold upto;rw[if_pos hj]
set_option maxHeartbeats 1000000 in
theorem eD {h:H}{T:C1}{m:Nat}{fv:Value}{g:Nat->Nat->Int}(hm:m<=h.next) (hT:T.Ok m h) (V:T.Valid)
 (hy:∀i k h1,i<T.n->k<T.w 0->Quiet h.next h h1->∃v h2,v= .int .i64 (g i k)/\CX Tryz.prog fv h1.next h1 [.int .i64 i,.int .i64 k,.agg ⟨(T.f i k).cells⟩] v h2):
 AW Tryz.prog 71 h.next h [.agg ⟨T.cells⟩,fv] (fun v h'=>∃rr r w,v= .slice w T.n 0/\Own (h.next+1) h'.next h' T.n (T.w 0) rr g r w):=by
 obtain⟨e1,i1,r1,l1,re,ri,rr,rl⟩:=hT
 obtain⟨n1,n2,w1,w2,eq,s1,s2,pl,some⟩:=V
 refine Ae8.call rfl (Nat.le_refl _) ?_
 unfold a71 C1.cells
 (focus((try with_reducible apply wpC.to);(repeat'((conv=>whnf);first|refine Ak ?_|(apply Fork.mk<;>(intro _;try(exfalso;omega)))|((refine AJ ?_);first|((first|apply Ae|apply Ac|apply Ad)<;>intro _ _ _ _<;>try contradiction)|(apply Ab;intro _ _ _))|refine Am ?_|fail));all_goals((conv=>whnf);try with_reducible apply At.mk)))
 refine wp_loop (fun x:PkS=>[(1,fv),(2,.pointer (.some ⟨h.next,0,none⟩)),(5,.slice x.v x.i 0),(12,.slice T.b T.n T.c),(13,.int .i64 T.n),(14,.int .i64 x.i)])
  (fun x h1=>Quiet h.next h h1/\h.next+1<=h1.next/\Own (h.next+1) h1.next h1 x.i (T.w 0) x.rr g x.r x.v/\x.i<=T.n) (fun x=>T.n - x.i) ⟨0,fun _=>0,0,none⟩ ⟨rfl,rfl,rfl,rfl,rfl,rfl,trivial⟩ ⟨AO,Ah,Own.nil,by simp⟩ ?_
 rintro⟨i,ro,r,v⟩ g1 h1 ⟨q1,hn1,O1,hi⟩ K hK
 dsimp only at O1 hi
 dsimp only
 have rK:Same h.next h h1:=fun x hx=>q1.same x hx
 by_cases hin:i<T.n
 ·have rei:=re i hin
  have vA:=ri i hin
  have rri:=rr i hin
  have vY:=eq i hin
  have e0:=rei Al
  (focus((try with_reducible apply wpC.to);(repeat'((conv=>whnf);first|refine Ak ?_|(apply Fork.mk<;>(intro _;try(exfalso;omega)))|((refine AJ ?_);first|((first|apply Ae|apply Ac|apply Ad)<;>intro _ _ _ _<;>try contradiction)|(apply Ab;intro _ _ _))|refine Am ?_|fail));all_goals((conv=>whnf);try with_reducible apply At.mk)))
  refine Hr (z:=[Value.int .i64 0]) (a:=T.w i) (b:=T.w i) (k1:=.i64) (k2:=.i64) rfl rfl (Nat.le_refl _) Al ?_
  rw[wK]
  (focus((try with_reducible apply wpC.to);(repeat'((conv=>whnf);first|refine Ak ?_|(apply Fork.mk<;>(intro _;try(exfalso;omega)))|((refine AJ ?_);first|((first|apply Ae|apply Ac|apply Ad)<;>intro _ _ _ _<;>try contradiction)|(apply Ab;intro _ _ _))|refine Am ?_|fail));all_goals((conv=>whnf);try with_reducible apply At.mk)))
  have q2:Quiet h.next h (((((h1.bump 1).bump 5).bump 4).put (h1.next+8) (BQ.cells (A0 (fun x=>0) (T.w i)) 2)).bump 3):=by(exact AO)
  refine wp_loop (fun k:Nat=>[(1,fv),(2,.pointer (.some ⟨h.next,0,none⟩)),(5,.slice v i 0),(12,.slice T.b T.n T.c),(13,.int .i64 T.n),(14,.int .i64 i),(6,.int .i64 i),(8,.slice (.some ⟨h1.next+8,0,none⟩) (T.w i) (T.w i)),(22,.slice (T.rb i) (T.w i) (T.rc i)),(23,.int .i64 (T.w i)),(24,.int .i64 k)])
   (fun k h2=>Quiet h.next h h2/\h1.next+13<=h2.next/\(∀x,x<h1.next->h2.get x=h1.get x)/\h2.get (h1.next+8)= .some (.cells (A0 (upto (g i) k) (T.w 0)) 2)/\k<=T.w 0) (fun k=>T.w 0 - k) 0 ⟨rfl,rfl,rfl,rfl,rfl,rfl,rfl,rfl,rfl,rfl,rfl,trivial⟩ ⟨q2,Ah,fun x hx=>Aw fun y hy=>Aa,?_,by omega⟩ ?_
  ·rw[vY]
   have:upto (g i) 0=fun _=>0:=by funext j;unfold upto;rw[if_neg Al]
   rw[this]
   (exact Aa)
  rintro k g3 h2 ⟨q3,Lj,old,hx,hk⟩ K3 hK3
  by_cases fu:k<T.w 0
  ·have hki:k<T.w i:=by omega
   have R3:Same h.next h h2:=fun x hx=>q3.same x hx
   have hyk:=fun h3 q=>hy i k h3 hin fu q
   have hrc:(T.f i k).cells=[.int .i64 (T.f i k).lo,.int .i64 (T.f i k).hi]:=rfl
   rw[hrc]at hyk
   (focus((try with_reducible apply wpC.to);(repeat'((conv=>whnf);first|refine Ak ?_|(apply Fork.mk<;>(intro _;try(exfalso;omega)))|((refine AJ ?_);first|((first|apply Ae|apply Ac|apply Ad)<;>intro _ _ _ _<;>try contradiction)|(apply Ab;intro _ _ _))|refine Am ?_|fail));all_goals((conv=>whnf);try with_reducible apply At.mk)))
   apply su
   focus(exact Ao)
   focus(exact AQ)
   focus exact hyk _ AO
   rintro _ h4 rfl q4 Ng
   have hx4:h4.get (h1.next+8)= .some (.cells (A0 (upto (g i) k) (T.w 0)) 2):=(q4.same _ Ah).trans Aa
   have Amo:∀x,x<h1.next->h4.get x=h1.get x:=fun x hx=>(q4.same x Ah).trans ((Aw fun y hy=>Aa).trans (old x hx))
   have q4':Quiet h.next h h4:=Quiet.trans AO (q4.mono Ah)
   have tO:h1.next+13<=h4.next:=by(exact Ah)
   clear q4
   (focus((try with_reducible apply wpC.to);(repeat'((conv=>whnf);first|refine Ak ?_|(apply Fork.mk<;>(intro _;try(exfalso;omega)))|((refine AJ ?_);first|((first|apply Ae|apply Ac|apply Ad)<;>intro _ _ _ _<;>try contradiction)|(apply Ab;intro _ _ _))|refine Am ?_|fail));all_goals((conv=>whnf);try with_reducible apply At.mk)))
   refine Xq.mk (r:=h1.next+8) (off:=0+k*1) (c':=A0 (upto (g i) (k+1)) (T.w 0)) rfl Al hx4 rfl rfl (Nat.ble_eq_true_of_le (by rw[EL];omega)) (Ab9 ((Gn _ _ fu Al).trans (by rw[gV]))) ?_
   (focus((try with_reducible apply wpC.to);(repeat'((conv=>whnf);first|refine Ak ?_|(apply Fork.mk<;>(intro _;try(exfalso;omega)))|((refine AJ ?_);first|((first|apply Ae|apply Ac|apply Ad)<;>intro _ _ _ _<;>try contradiction)|(apply Ab;intro _ _ _))|refine Am ?_|fail));all_goals((conv=>whnf);try with_reducible apply At.mk)))
   exact hK3 (k+1) _ _ ⟨rfl,rfl,rfl,rfl,rfl,rfl,rfl,rfl,rfl,rfl,AK rfl Al,trivial⟩ ⟨by(repeat with_reducible apply Quiet.wD);exact q4'.trans (Quiet.put Al Al),Ah,fun x hx=>(Aw fun y hy=>Aa).trans (Amo x hx),Aa,by omega⟩ Al
  ·obtain rfl:k=T.w 0:=by omega
   rw[lE]at hx
   (focus((try with_reducible apply wpC.to);(repeat'((conv=>whnf);first|refine Ak ?_|(apply Fork.mk<;>(intro _;try(exfalso;omega)))|((refine AJ ?_);first|((first|apply Ae|apply Ac|apply Ad)<;>intro _ _ _ _<;>try contradiction)|(apply Ab;intro _ _ _))|refine Am ?_|fail));all_goals((conv=>whnf);try with_reducible apply At.mk)))
   apply EP (r:=r) (n:=i) (m:=1) (cs:=rowsOf (fun j=>[.slice (.some ⟨ro j,0,none⟩) (T.w 0) (T.w 0)]) i) (nc:=[.slice (.some ⟨h1.next+8,0,none⟩) (T.w 0) (T.w 0)]) (v:=v)
   case G=>exact O1.out.frame fun h0=>(Aw fun y hy=>by have:=O1.org h0;(exact Aa)).trans (old r (O1.org h0).1.2)
   case hsv=>exact rfl
   case C=>exact Cells.one (by rw[<-vY];(exact Ez)) (by unfold AE.far;omega) rfl rfl
   case hm=>omega
   case hlo=>(exact Ah)
   case hlr=>exact fun h0=>by have:=O1.org h0;exact⟨Ah,Ah⟩
   case hsm=>omega
   intro v' r' row ha hb hc G'
   have hr0:=O1.org
   have hr':h.next+1<=r'/\r'≠h1.next+8:=by
    rcases Nat.eq_zero_or_pos i with h0|h0
    ·have:=ha h0;exact⟨Ah,Ah⟩
    ·have:=hb h0;have:=(hr0 h0).1;exact⟨Ah,Ah⟩
   (focus((try with_reducible apply wpC.to);(repeat'((conv=>whnf);first|refine Ak ?_|(apply Fork.mk<;>(intro _;try(exfalso;omega)))|((refine AJ ?_);first|((first|apply Ae|apply Ac|apply Ad)<;>intro _ _ _ _<;>try contradiction)|(apply Ab;intro _ _ _))|refine Am ?_|fail));all_goals((conv=>whnf);try with_reducible apply At.mk)))
   refine hK ⟨i+1,fun j=>if j=i then h1.next+8 else ro j,r',v'⟩ _ _ ⟨rfl,rfl,rfl,rfl,rfl,AK rfl (by dsimp only;omega),trivial⟩ ⟨?_,Ah,?_,by dsimp only;omega⟩ (by dsimp only;omega)
   ·have:=hr'.1
    (exact AO)
   ·dsimp only
    refine O1.next (N':=_) (r':=r') (x:=h1.next+8) Ah Al ?_ ?_ ⟨by omega,Ah⟩ ?_ ⟨hb,fun h0=>?_⟩
    ·intro x h3 h4 h5
     have hxr:x≠r':=by
      rcases Nat.eq_zero_or_pos i with h0|h0
      ·have:=ha h0;(exact Ah)
      ·have:=hb h0;have:=h5 h0;omega
     exact(Aw fun y hy=>Aa).trans (old x h4)
    ·(exact Aa)
    ·exact G'.frame fun _=>Aw fun y hy=>by(exact Aa)
    ·have:=ha h0
     exact⟨Ah,Ah,hr'.2⟩
 ·obtain rfl:i=T.n:=by omega
  (focus((try with_reducible apply wpC.to);(repeat'((conv=>whnf);first|refine Ak ?_|(apply Fork.mk<;>(intro _;try(exfalso;omega)))|((refine AJ ?_);first|((first|apply Ae|apply Ac|apply Ad)<;>intro _ _ _ _<;>try contradiction)|(apply Ab;intro _ _ _))|refine Am ?_|fail));all_goals((conv=>whnf);try with_reducible apply At.mk)))
  (refine Au ?_)
  exact⟨_,_,_,rfl,O1.frame Ah fun x _ hx=>Aw fun y hy=>Aa⟩
end AE.Tryz
