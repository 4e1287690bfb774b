/- Walks and plain laws: TAgreeP, TAgreeQ, TAgreeR. -/
import Derived.Test.YtneenfjffejnoaaGreatAEBy2
import Derived.Test.YtneenfjffejnoaaGreatJoin34
import Derived.Test.YtneenfjffejnoaaGreatAEthree
set_option linter.unusedVariables false
set_option linter.unusedSimpArgs false
set_option linter.unusedSectionVars false

/- Walks of agree: the bounds of the definitions. -/
namespace AE.Tryz.Agr
set_option linter.unusedSimpArgs false
open Go AE AE.Ag AgreeS Go.Proofs
set_option maxRecDepth 100000

def Xn:Int:=1125899906842624
def bnd (B:Net) (i j:Nat):Int:=(B i j).getD Xn
def Gx (M:Nat->Nat->Int) (i j:Nat) (v:Int):Nat->Nat->Int:=fun i' j'=>if i'=i/\j'=j then v else M i' j'
theorem Rt {B:Net}{f t:Nat}{m:Int}(hm:m<=Xn):bnd (AgreeS.put B f t m)=Gx (bnd B) f t (min (bnd B f t) m):=by
 funext i j
 simp only[bnd,AgreeS.put,Gx]
 split
 ·cases e:B f t with
  |none=>simp only[Option.getD_some,Option.getD_none];omega
  |some o=>simp only[Option.getD_some];omega
 ·rfl
theorem Ot {B:Net}{f t i j:Nat}{m:Int}(h:B i j=none) (hne:¬(i=f/\j=t)):AgreeS.put B f t m i j=none:=by simp only[AgreeS.put,if_neg hne,h]
theorem Ux (T:Tab):∀k i,k<=i->GA T k 0 (1+i)=none/\GA T k (1+i) 0=none
 |0,i,_=>⟨rfl,rfl⟩
 | k+1,i,h=>by
   obtain⟨a,b⟩:=Ux T k i Al
   rw[Lp]
   unfold Fq
   exact⟨Ot (Ot a Al) Al,Ot (Ot b Al) Al⟩

theorem S3 (f:Nat->Int) (n:Nat):A0 f n++[.int .i64 (f n)]=A0 f (n+1):=by unfold A0;rfl
theorem YN (f:Nat->Int):A0 f 0=[]:=by unfold A0;rfl
theorem Jf {f:Nat->Int}{n i:Nat}(hi:i<n):cut (A0 f n) i 1=some [.int .i64 (f i)]:=by
 have:=EN (g:=fun i=>[Value.int .i64 (f i)]) (w:=1) (fun _=>rfl) hi [] [] (a:=i) (by simp)
 unfold A0
 simpa using this

def Oo (va:Nat->Addr) (N i:Nat):List Value:=[.slice (some (va i)) N 0]
structure PB (s N:Nat) (M:Nat->Nat->Int) (b m:Nat) (h:H) (v4:Option Addr) (va:Nat->Addr):Prop where
 row:∀i,i<s->N5 (va i).block h 2 1 N (A0 (M i) N) (some (va i))
 rng:∀i,i<s->b<=(va i).block/\(va i).block<m
 inj:∀i j,i<s->j<s->(va i).block=(va j).block->i=j
 nil:s=0->v4=none
 out:0<s->∃a4,v4=some a4/\N5 a4.block h 37 1 s (rowsOf (Oo va N) s) (some a4)/\(b<=a4.block/\a4.block<m)/\∀i,i<s->(va i).block≠a4.block
theorem PB.frame {s N b m m':Nat}{M:Nat->Nat->Int}{h h':H}{v4:Option Addr}{va:Nat->Addr}(k:PB s N M b m h v4 va) (hm:m<=m') (hs:∀r,b<=r->r<m->h'.get r=h.get r):PB s N M b m' h' v4 va:=
 ⟨fun i hi=>(k.row i hi).frame (hs _ (k.rng i hi).1 (k.rng i hi).2),fun i hi=>by have:=k.rng i hi;omega,k.inj,k.nil,fun h0=>by
  obtain⟨a4,h1,h2,h3,h4⟩:=k.out h0
  exact⟨a4,h1,h2.frame (hs _ h3.1 h3.2),by omega,h4⟩⟩
theorem PB.lower {s N b b' m:Nat}{M:Nat->Nat->Int}{h:H}{v4:Option Addr}{va:Nat->Addr}(k:PB s N M b m h v4 va) (hb:b'<=b):PB s N M b' m h v4 va:=
 ⟨k.row,fun i hi=>by have:=k.rng i hi;omega,k.inj,k.nil,fun h0=>by
  obtain⟨a4,h1,h2,h3,h4⟩:=k.out h0
  exact⟨a4,h1,h2,by omega,h4⟩⟩
def RJ (va:Nat->Addr) (s:Nat) (a:Addr):Nat->Addr:=fun i=>if i=s then a else va i
theorem PB.store {s N b m i j lo:Nat}{M:Nat->Nat->Int}{h:H}{v4:Option Addr}{va:Nat->Addr}(k:PB s N M b m h v4 va) (hi:i<s) (hj:j<N) (hlo:lo<=b) (v:Int):
 ∃row,h.En lo (BI (va i) (j*1)) [.int .i64 v]=some (h.put (va i).block row)/\PB s N (Gx M i j v) b m (h.put (va i).block row) v4 va:=by
 obtain⟨a,ha,hb,hld,hst⟩:=(k.row i hi).load
 simp only[Option.some.injEq]at ha
 subst ha
 obtain⟨row,h1,h2⟩:=hst lo (j*1) [.int .i64 v] (by have:=k.rng i hi;omega) rfl (by rw[EL];simp;omega)
 refine⟨row,h1,fun i' hi'=>?_,k.rng,k.inj,k.nil,fun h0=>?_⟩
 ·by_cases e:i'=i
  ·subst e
   rw[Gn _ _ hj Al]at h2
   have:Gx M i' j v i'=F7 (M i') j v:=by funext x;simp[Gx,F7]
   rw[this]
   exact h2
  ·have:Gx M i j v i'=M i':=by funext x;simp[Gx,e]
   rw[this]
   exact(k.row i' hi').frame (by simp only[H.put];rw[if_neg (fun hbk=>e (k.inj _ _ hi' hi hbk))])
 ·obtain⟨a4,h1',h2',h3,h4⟩:=k.out h0
  exact⟨a4,h1',h2'.frame (by simp only[H.put];rw[if_neg (fun hbk=>h4 i hi hbk.symm)]),h3,h4⟩
theorem PB.outer {s N b m i:Nat}{M:Nat->Nat->Int}{h:H}{a4:Addr}{va:Nat->Addr}(k:PB s N M b m h (some a4) va) (hi:i<s):h.Bu (BI a4 (i*1)) 1=some [.slice (some (va i)) N 0]:=by
 obtain⟨a',ha,hG, -⟩:=k.out Al
 simp only[Option.some.injEq]at ha
 subst ha
 obtain⟨a,ha,hb,hld,hst⟩:=hG.load
 simp only[Option.some.injEq]at ha
 subst ha
 refine hld _ _ _ ?_
 have:=EN (g:=Oo va N) (w:=1) (fun _=>rfl) hi [] [] (a:=i*1) (by simp)
 simpa[Oo]using this
theorem PB.inner {s N b m i j:Nat}{M:Nat->Nat->Int}{h:H}{v4:Option Addr}{va:Nat->Addr}(k:PB s N M b m h v4 va) (hi:i<s) (hj:j<N):h.Bu (BI (va i) (j*1)) 1=some [.int .i64 (M i j)]:=by
 obtain⟨a,ha,hb,hld,hst⟩:=(k.row i hi).load
 simp only[Option.some.injEq]at ha
 subst ha
 refine hld _ _ _ ?_
 rw[Nat.mul_one]
 exact Jf hj
theorem PB.next {s N b m m':Nat}{M:Nat->Nat->Int}{h h':H}{v4:Option Addr}{va:Nat->Addr}{a6 a4:Addr}(k:PB s N M b m h v4 va) (hm:m<=m') (hbm:b<=m) (hs:∀r,b<=r->r<m->(0<s->r≠a4.block)->h'.get r=h.get r) (h4:0<s->∃a,v4=some a/\a.block=a4.block)
 (G6:N5 a6.block h' 2 1 N (A0 (M s) N) (some a6)) (r6:m<=a6.block/\a6.block<m') (G4:N5 a4.block h' 37 1 (s+1) (rowsOf (Oo va N) s++[.slice (some a6) N 0]) (some a4)) (n4:s=0->m<=a4.block/\a4.block<m'/\a4.block≠a6.block):PB (s+1) N M b m' h' (some a4) (RJ va s a6):=by
 have old:∀i,i<s->RJ va s a6 i=va i:=fun i hi=>by simp only[RJ];rw[if_neg Al]
 have new:RJ va s a6 s=a6:=by simp[RJ]
 have ne4:∀i,i<s->(va i).block≠a4.block:=fun i hi=>by
  obtain⟨a,e1,e2⟩:=h4 Al
  obtain⟨a',e3, -, -,e4⟩:=k.out Al
  rw[e1]at e3
  simp only[Option.some.injEq]at e3
  subst e3
  rw[<-e2]
  exact e4 i hi
 have r4:b<=a4.block/\a4.block<m'/\a4.block≠a6.block:=by
  rcases Nat.eq_zero_or_pos s with h0|h0
  ·have:=n4 h0;omega
  ·obtain⟨a,e1,e2⟩:=h4 h0
   obtain⟨a',e3, -,e5, -⟩:=k.out h0
   rw[e1]at e3
   simp only[Option.some.injEq]at e3
   subst e3
   omega
 refine⟨fun i hi=>?_,fun i hi=>?_,fun i j hi hj=>?_,fun h=>by omega,fun _=>⟨a4,rfl,?_,by omega,fun i hi=>?_⟩⟩
 ·by_cases e:i=s
  ·subst e;rw[new];exact G6
  ·rw[old i Al]
   have:=k.rng i Al
   exact(k.row i Al).frame (hs _ this.1 this.2 fun _=>ne4 i Al)
 ·by_cases e:i=s
  ·subst e;rw[new];omega
  ·rw[old i Al]
   have:=k.rng i Al
   omega
 ·by_cases e:i=s
  ·by_cases e':j=s
   ·omega
   ·subst e
    rw[new,old j Al]
    have:=k.rng j Al
    omega
  ·by_cases e':j=s
   ·subst e'
    rw[new,old i Al]
    have:=k.rng i Al
    omega
   ·rw[old i Al,old j Al]
    exact k.inj i j Al Al
 ·have:rowsOf (Oo (RJ va s a6) N) (s+1)=rowsOf (Oo va N) s++[.slice (some a6) N 0]:=by
   show rowsOf (Oo (RJ va s a6) N) s++Oo (RJ va s a6) N s=_
   rw[DC (f:=Oo (RJ va s a6) N) (g:=Oo va N) s fun i hi=>by simp only[Oo,old i hi]]
   simp only[Oo,new]
  rw[this]
  exact G4
 ·by_cases e:i=s
  ·subst e;rw[new];omega
  ·rw[old i Al];exact ne4 i Al

theorem VP {s N b m i j lo:Nat}{M:Nat->Nat->Int}{h:H}{v4:Option Addr}{va:Nat->Addr}{v:Int}{k:H->Prop}(hP:PB s N M b m h v4 va) (hi:i<s) (hj:j<N) (hlo:lo<=b)
 (hk:∀row,PB s N (Gx M i j v) b m (h.put (va i).block row) v4 va->k (h.put (va i).block row)):Xq lo h (BI (va i) (j*1)) 1 [.int .i64 v] k:=by
 obtain⟨row,h1,h2⟩:=hP.store hi hj hlo v
 exact .raw h1 rfl (hk row h2)

set_option maxHeartbeats 2000000 in
theorem jX {h:H}{T:Tab}{m:Nat}(hm:m<=h.next) (hT:T.Ok m h) (hv:T.Valid):
 AW Tryz.prog 48 h.next h [.agg ⟨T.cells⟩] (fun v h'=>∃a4 va,v= .slice (some a4) T.toTable.many 0/\PB T.toTable.many T.toTable.many (bnd (BO T.toTable)) h.next h'.next h' (some a4) va):=by
 have hok:=hv.ok
 have hmm:=hok.many
 have hTd:=hT
 obtain⟨te,ti,tr,tl⟩:=hTd
 obtain⟨n24,t1,t2,h1,h2,hb,hf⟩:=hv
 unfold TR at hb hf
 obtain⟨N,hN,hNi⟩:∃N,N=T.toTable.many/\(N:Int)=1+T.tanks+T.hulls:=⟨_,rfl,by simp only[Table.many,Tab.toTable];omega⟩
 rw[<-hN]at hmm⊢
 refine Aft.call rfl Al ?_
 unfold a48
 (refine Aj ?_)
 refine wp_loop (fun s:Nat × Option Addr × (Nat->Addr)=>[(1,.pointer (some ⟨h.next,0,none⟩)),(3,.int .i64 (1+T.tanks+T.hulls)),(4,.slice s.2.1 s.1 0),(5,.int .i64 s.1)])
  (fun s h1=>Same h.next h h1/\h.next+1<=h1.next/\s.1<=N/\h1.get h.next=some (.cells T.cells 31)/\PB s.1 N (fun _ _=>Xn) (h.next+1) h1.next h1 s.2.1 s.2.2) (fun s=>N - s.1) (0,none,fun _=>⟨0,0,none⟩)
  ⟨rfl,rfl,rfl,rfl,trivial⟩ ⟨Aq,Ah,by simp only;omega,Aa,⟨fun i hi=>absurd hi (Nat.not_lt_zero i),fun i hi=>absurd hi (Nat.not_lt_zero i),fun i j hi=>absurd hi (Nat.not_lt_zero i),fun _=>rfl,fun h=>absurd h (Nat.lt_irrefl 0)⟩⟩ ?_
 rintro⟨s,v4,va⟩ g h1 ⟨sm,hn,hs,g1,hP⟩ K hK
 simp only at hs hP hK
 (focus((try with_reducible apply wpC.to);(repeat'((conv=>whnf);first|refine Ak ?_|(apply Fork.mk<;>(intro _;try(exfalso;omega)))|fail));all_goals((conv=>whnf);try with_reducible apply At.mk)))
 ·refine wp_loop (fun u:Nat × Option Addr=>[(1,.pointer (some ⟨h.next,0,none⟩)),(3,.int .i64 (1+T.tanks+T.hulls)),(4,.slice v4 s 0),(5,.int .i64 s),(6,.slice u.2 u.1 0),(7,.int .i64 u.1)])
   (fun u h2=>Same h1.next h1 h2/\h1.next<=h2.next/\u.1<=N/\Grown h1.next h2.next h2 2 1 u.1 (A0 (fun _=>Xn) u.1) u.2) (fun u=>N - u.1) (0,none)
   ⟨rfl,rfl,rfl,rfl,rfl,rfl,trivial⟩ ⟨Aq,Ah,by simp only;omega,by simp only[YN];exact Grown.nil⟩ ?_
  rintro⟨u,v6⟩ g' h2 ⟨R3,hn2,hu,G⟩ K' hK'
  simp only at hu G hK'
  (focus((try with_reducible apply wpC.to);(repeat'((conv=>whnf);first|refine Ak ?_|(apply Fork.mk<;>(intro _;try(exfalso;omega)))|fail));all_goals((conv=>whnf);try with_reducible apply At.mk)))
  ·apply V9 (b:=h1.next) (N:=h2.next) (n:=u) (m:=1) (nc:=[.int .i64 Xn])
   case hsv=>exact rfl
   case G=>exact G.frame (Nat.le_refl _) fun j hj1 hj2=>Aw fun y hy=>by(exact Aa)
   case C=>exact Cells.one Ez (by unfold far;omega) rfl rfl
   case hm=>omega
   case hlo=>(exact Ah)
   case hb=>(exact Ah)
   case hN=>(exact Ah)
   case hsm=>omega
   intro v' j row hj1 hj2 hj3 G'
   rw[show A0 (fun _=>Xn) u++[.int .i64 Xn]=A0 (fun _=>Xn) (u+1)from S3 (fun _=>Xn) u]at G'
   (refine Aj ?_)
   refine hK' (u+1,v') _ _ ⟨rfl,rfl,rfl,rfl,rfl,AK rfl (by simp only;omega),trivial⟩ ⟨Aq,Ah,by simp only;omega,?_⟩ (by simp only;omega)
   exact G'.frame Ah fun i hi1 hi2=>Aw fun y hy=>by(exact Aa)
  ·have:u=N:=by simp only at*;omega
   subst this
   obtain⟨r6,G6,hr6,Aoh⟩:=G.t6 Al
   obtain⟨a6,rfl,hb6, -, -⟩:=G6.load
   subst hb6
   rcases Nat.eq_zero_or_pos s with h0|h0
   ·subst h0
    obtain rfl:=hP.nil rfl
    apply V9 (b:=h2.next) (N:=h2.next) (n:=0) (m:=1) (cs:=[]) (nc:=[.slice (some a6) u 0])
    case hsv=>exact rfl
    case G=>exact Grown.nil
    case C=>exact Cells.one Ez (by unfold far;omega) rfl rfl
    case hm=>omega
    case hlo=>(exact Ah)
    case hb=>(exact Ah)
    case hN=>(exact Ah)
    case hsm=>omega
    intro v' j row hj1 hj2 hj3 G'
    obtain⟨r4,G4,hr4,yD⟩:=G'.t6 Al
    obtain⟨a4,rfl,hb4, -, -⟩:=G4.load
    subst hb4
    (refine Aj ?_)
    refine hK (1,some a4,RJ va 0 a6) _ _ ⟨rfl,rfl,rfl,AK rfl (by simp only;omega),trivial⟩ ⟨by have sm':Same h.next h h2:=sm.trans (R3.mono Al);(exact Aq),Ah,by simp only;omega,Aa,?_⟩ (by simp only;omega)
    exact PB.next (s:=0) hP Ah Al (fun r hr1 hr2 _=>Aw fun y hy=>Aa) (fun h=>absurd h (Nat.lt_irrefl 0)) (G6.frame Ep) ⟨by omega,Ah⟩ (G4.frame Ep) (fun _=>⟨by omega,Ah,by omega⟩)
   ·obtain⟨a4,rfl,G4,hr4,Aol⟩:=hP.out h0
    have G4':N5 a4.block h2 37 1 s (rowsOf (Oo va u) s) (some a4):=G4.frame Ep
    apply Sm (r:=a4.block) (n:=s) (m:=1) (cs:=rowsOf (Oo va u) s) (nc:=[.slice (some a6) u 0])
    case hsv=>exact rfl
    case G=>exact G4'.frame Ep
    case C=>exact Cells.one Ez (by unfold far;omega) rfl rfl
    case hm=>omega
    case hlo=>(exact Ah)
    case hsm=>omega
    intro v' row G5
    obtain⟨a5,rfl,hb5, -, -⟩:=G5.load
    rw[<-hb5]at G5⊢
    (refine Aj ?_)
    refine hK (s+1,some a5,RJ va s a6) _ _ ⟨rfl,rfl,rfl,AK rfl (by simp only;omega),trivial⟩ ⟨by have sm':Same h.next h h2:=sm.trans (R3.mono Al);(exact Aq),Ah,by simp only;omega,Aa,?_⟩ (by simp only;omega)
    exact PB.next hP Ah Al (fun r hr1 hr2 hne=>Aw fun y hy=>by have:=hne h0;(exact Aa)) (fun _=>⟨a4,rfl,by omega⟩) (G6.frame Ep) ⟨by omega,Ah⟩ (G5.frame Ep) (fun h=>by omega)
 have:s=N:=by simp only at*;omega
 subst this
 obtain⟨a4,rfl, -⟩:=hP.out Al
 clear hK K
 refine wp_loop (fun u:Nat=>[(1,.pointer (some ⟨h.next,0,none⟩)),(4,.slice (some a4) s 0),(8,.int .i64 u)])
  (fun u h2=>Same h.next h h2/\h.next+1<=h2.next/\(u:Int)<=T.tanks/\h2.get h.next=some (.cells T.cells 31)/\PB s s (bnd (GA T u)) (h.next+1) h2.next h2 (some a4) va) (fun u=>T.tanks.toNat - u) 0
  ⟨rfl,rfl,rfl,trivial⟩ ⟨Aq,Ah,by omega,Aa,hP.frame Ah fun r hr1 hr2=>rfl⟩ ?_
 clear g1 hP sm hn g
 rintro u g h2 ⟨sm,hn,hu,g1,hP⟩ K hK
 (focus((try with_reducible apply wpC.to);(repeat'((conv=>whnf);first|refine Ak ?_|(apply Fork.mk<;>(intro _;try(exfalso;omega)))|fail));all_goals((conv=>whnf);try with_reducible apply At.mk)))
 ·have hun:=Ux T u u (Nat.le_refl _)
  refine Ei.mk (hP.outer (i:=0) Al) rfl ?_
  (refine Aj ?_)
  refine Ei.mk (hP.outer (i:=1+u) Al) rfl ?_
  (refine Aj ?_)
  have r0:=hP.rng 0 Al
  have r1:=hP.rng (1+u) Al
  refine VP (hP.frame (Nat.le_refl _) fun r hr1 hr2=>Aw fun y hy=>Aa) (i:=0) (j:=1+u) Al Al Al fun row hP2=>?_
  (refine Aj ?_)
  refine VP (hP2.frame (Nat.le_refl _) fun r hr1 hr2=>Aw fun y hy=>Aa) (i:=1+u) (j:=0) Al Al Al fun xn hP3=>?_
  (refine Aj ?_)
  refine hK (u+1) _ _ ⟨rfl,rfl,AK rfl Al,trivial⟩ ⟨Aq,Ah,by omega,Aa,?_⟩ Al
  have e:bnd (GA T (u+1))=Gx (Gx (bnd (GA T u)) 0 (1+u) T.TT) (1+u) 0 (-T.Ue):=by
   rw[Lp]
   unfold Fq
   rw[Rt (by simp only[Tab.toTable,Xn];omega),Rt (by simp only[Tab.toTable,Xn];omega)]
   have e1:bnd (GA T u) 0 (1+u)=Xn:=by simp only[bnd,hun.1,Option.getD_none]
   have e2:Gx (bnd (GA T u)) 0 (1+u) (min (bnd (GA T u) 0 (1+u)) T.toTable.TT) (1+u) 0=Xn:=by
    unfold Gx
    rw[if_neg Al]
    simp only[bnd,hun.2,Option.getD_none]
   rw[e2,e1]
   have m1:min Xn T.toTable.TT=T.TT:=by simp only[Tab.toTable,Xn];omega
   have m2:min Xn (-T.toTable.Ue)= -T.Ue:=by simp only[Tab.toTable,Xn];omega
   rw[m1,m2]
  rw[e]
  exact hP3.frame Ah fun r hr1 hr2=>Aw fun y hy=>by(exact Aa)
 have:u=T.tanks.toNat:=by omega
 subst this
 rw[<-SA]at hP
 clear hK K
 refine wp_loop (fun u:Nat=>[(1,.pointer (some ⟨h.next,0,none⟩)),(4,.slice (some a4) s 0),(9,.int .i64 u)])
  (fun u h2=>Same h.next h h2/\h.next+1<=h2.next/\u<=T.n/\h2.get h.next=some (.cells T.cells 31)/\PB s s (bnd (Kb T u)) (h.next+1) h2.next h2 (some a4) va) (fun u=>T.n - u) 0
  ⟨rfl,rfl,rfl,trivial⟩ ⟨Aq,Ah,by omega,Aa,hP.frame Ah fun r hr1 hr2=>rfl⟩ ?_
 clear g1 hP sm hn g
 rintro u g h2 ⟨sm,hn,hu,g1,hP⟩ K hK
 have ti2:JP h2 T.a T.n 4 (fun i=>(T.f i).cells):=ti.same (sm.mono hm) tr
 have hfu:u<T.n->0<=(T.f u).tank/\(T.f u).tank<T.tanks/\0<=(T.f u).hull/\(T.f u).hull<T.hulls/\(T.f u).lo<=(T.f u).hi/\ -1000000<=(T.f u).lo/\(T.f u).hi<=1000000:=fun hlt=>by
  have:=hf u hlt
  omega
 (focus((try with_reducible apply wpC.to);(repeat'((conv=>whnf);first|refine Ak ?_|(apply Fork.mk<;>(intro _;try(exfalso;omega)))|fail));all_goals((conv=>whnf);try with_reducible apply At.mk)))
 ·have hfu:=hfu Al
  have hPf:=fun(h3:H) hh=>hP.frame (h':=h3) (Nat.le_refl _) hh
  have ra:=hP.rng (1+T.tanks+(T.f u).hull).toNat Al
  have rc:=hP.rng (1+(T.f u).tank).toNat Al
  refine Ei.mk ((hPf _ fun r hr1 hr2=>Aw fun y hy=>Aa).outer (i:=(1+T.tanks+(T.f u).hull).toNat) Al) rfl ?_
  (refine Aj ?_)
  refine Ei.mk ((hPf _ fun r hr1 hr2=>Aw fun y hy=>Aa).outer (i:=(1+T.tanks+(T.f u).hull).toNat) Al) rfl ?_
  (refine Aj ?_)
  refine Ei.mk ((hPf _ fun r hr1 hr2=>Aw fun y hy=>Aa).inner (i:=(1+T.tanks+(T.f u).hull).toNat) (j:=(1+(T.f u).tank).toNat) Al Al) rfl ?_
  (refine Aj ?_)
  refine VP (hPf _ fun r hr1 hr2=>Aw fun y hy=>Aa) (i:=(1+T.tanks+(T.f u).hull).toNat) (j:=(1+(T.f u).tank).toNat) Al Al Al fun row hP2=>?_
  (refine Aj ?_)
  have tU:=fun(h3:H) hh=>hP2.frame (h':=h3) (Nat.le_refl _) hh
  refine Ei.mk ((tU _ (fun r hr1 hr2=>Aw fun y hy=>Aa)).outer (i:=(1+(T.f u).tank).toNat) Al) rfl ?_
  (refine Aj ?_)
  refine Ei.mk ((tU _ (fun r hr1 hr2=>Aw fun y hy=>Aa)).outer (i:=(1+(T.f u).tank).toNat) Al) rfl ?_
  (refine Aj ?_)
  refine Ei.mk ((tU _ (fun r hr1 hr2=>Aw fun y hy=>Aa)).inner (i:=(1+(T.f u).tank).toNat) (j:=(1+T.tanks+(T.f u).hull).toNat) Al Al) rfl ?_
  (refine Aj ?_)
  refine VP (tU _ (fun r hr1 hr2=>Aw fun y hy=>Aa)) (i:=(1+(T.f u).tank).toNat) (j:=(1+T.tanks+(T.f u).hull).toNat) Al Al Al fun xn hP3=>?_
  (refine Aj ?_)
  refine hK (u+1) _ _ ⟨rfl,rfl,AK rfl Al,trivial⟩ ⟨Aq,Ah,by omega,Aa,?_⟩ Al
  have i1:(1+T.tanks+(T.f u).hull).toNat=1+T.tanks.toNat+(T.f u).hull.toNat:=by omega
  have i2:(1+(T.f u).tank).toNat=1+(T.f u).tank.toNat:=by omega
  have e:bnd (Kb T (u+1))=Gx (Gx (bnd (Kb T u)) (1+T.tanks.toNat+(T.f u).hull.toNat) (1+(T.f u).tank.toNat) (min (bnd (Kb T u) (1+T.tanks.toNat+(T.f u).hull.toNat) (1+(T.f u).tank.toNat)) (T.f u).hi)) (1+(T.f u).tank.toNat) (1+T.tanks.toNat+(T.f u).hull.toNat) (min (Gx (bnd (Kb T u)) (1+T.tanks.toNat+(T.f u).hull.toNat) (1+(T.f u).tank.toNat) (min (bnd (Kb T u) (1+T.tanks.toNat+(T.f u).hull.toNat) (1+(T.f u).tank.toNat)) (T.f u).hi) (1+(T.f u).tank.toNat) (1+T.tanks.toNat+(T.f u).hull.toNat)) (-(T.f u).lo)):=by
   rw[SB]
   unfold Gj
   rw[Rt (by simp only[F1.toTest,Xn];omega),Rt (by simp only[F1.toTest,Xn];omega)]
   rfl
  rw[e,<-i1,<-i2]
  exact hP3.frame Ah (fun r hr1 hr2=>Aw fun y hy=>Aa)
 ·have:u=T.n:=by omega
  subst this
  rw[UM]at hP
  (refine Au ?_)
  exact⟨a4,va,rfl,(hP.lower Al).frame Ah fun r hr1 hr2=>rfl⟩

end AE.Tryz.Agr

/- Walks of agree: the definitions' check of a ring. -/
namespace AE.Tryz.Agr
set_option linter.unusedSimpArgs false
open Go AE AE.Ag AgreeS Go.Proofs
set_option maxRecDepth 100000

set_option maxHeartbeats 1000000 in
theorem iM {h:H}{T:Tab}{L:G9}{nd:Nat->Nat}{ws:Nat->Int}{m:Nat}(hm:m<=h.next) (hT:T.Ok m h) (hv:T.Valid) (hL:L.Ok h.next h) (hR:dh T L nd ws):
 AW Tryz.prog 14 h.next h [.agg ⟨T.cells⟩,.slice L.b L.n L.c] (fun v _=>v=dR (sumTo ws (L.n - 1))):=by
 have hok:=hv.ok
 have hmm:=hok.many
 obtain⟨rn2,rn,rnd,V5,rws,An8⟩:=hR
 obtain⟨le,li,lr,ll⟩:=hL
 refine Agn.call rfl (Nat.le_refl _) ?_
 unfold a14
 (refine Aj ?_)
 apply Dw
 focus(exact Ao)
 focus(exact AQ)
 focus exact Qo (m:=m) Ah (hT.same Aq (Nat.le_refl _)) hv
 intro h1 q1 hn1
 (refine Aj ?_)
 apply Ar
 focus(exact Ao)
 focus(exact AQ)
 focus exact jX (m:=m) Ah (hT.same Aq (Nat.le_refl _)) hv
 rintro _ h2 ⟨a4,va,rfl,hP⟩ q2 hn2
 generalize hNN:T.toTable.many=N at hP hmm V5⊢
 (refine Aj ?_)
 have lin:∀h3:H,Same h.next h h3->Ints h3 L.a L.n (fun i=>(nd i:Int)):=fun h3 sm i hi=>by
  have:=(li.same sm lr) i hi
  rw[this,rnd i hi]
 refine wp_loop (fun s:Nat=>[(1,.slice L.b L.n L.c),(6,.slice (some a4) N 0),(7,.int .i64 s)]) (fun s h3=>Same h.next h h3/\Same h2.next h2 h3/\h2.next<=h3.next/\s<=L.n) (fun s=>L.n - s) 0 ⟨rfl,rfl,rfl,trivial⟩ ⟨Aq,Aq,Ah,by omega⟩ ?_
 rintro s g h3 ⟨sm,R3,Lj,hs⟩ K hK
 have li3:=lin h3 sm
 have hlts:s<L.n->nd s<N:=V5 s
 (focus((try with_reducible apply wpC.to);(repeat'((conv=>whnf);first|refine Ak ?_|(apply Fork.mk<;>(intro _;try(exfalso;omega)))|fail));all_goals((conv=>whnf);try with_reducible apply At.mk)))
 ·refine hK (s+1) _ _ ⟨rfl,rfl,AK rfl Al,trivial⟩ ⟨sm,R3,Ah,by omega⟩ Al
 have:s=L.n:=by omega
 subst this
 clear hK K hlts li3
 refine wp_loop (fun u:Nat=>[(1,.slice L.b L.n L.c),(6,.slice (some a4) N 0),(8,.int .i64 (sumTo ws u)),(9,.int .i64 (u+1:Nat))]) (fun u h4=>Same h.next h h4/\Same h2.next h2 h4/\h2.next<=h4.next/\u+1<=L.n) (fun u=>L.n - u) 0 ⟨rfl,rfl,rfl,rfl,trivial⟩ ⟨sm,R3,Ah,by omega⟩ ?_
 clear sm R3 Lj g h3
 rintro u g h4 ⟨sm,R3,Ng,hu⟩ K hK
 have li4:=lin h4 sm
 have hwb:∀i,i+1<L.n-> -1000000<=ws i/\ws i<=1000000:=fun i hi=>by
  have:=(Io hok _ _ _ (rws i Al)).2.2
  unfold AgreeS.M at this
  omega
 have hss:=Ql (f:=ws) u fun i hi=>hwb i Al
 have hnn:u+1<L.n->nd (u+1 - 1)<N/\nd (u+1)<N:=fun h=>⟨V5 _ Al,V5 _ h⟩
 (focus((try with_reducible apply wpC.to);(repeat'((conv=>whnf);first|refine Ak ?_|(apply Fork.mk<;>(intro _;try(exfalso;omega)))|fail));all_goals((conv=>whnf);try with_reducible apply At.mk)))
 ·have hP4:PB N N (bnd (BO T.toTable)) ((h1.bump 8).bump 3).next h2.next h4 (some a4) va:=hP.frame (Nat.le_refl _) fun r hr1 hr2=>R3 r hr2
  have hu2:u+1<L.n:=by omega
  have w1:=V5 u Al
  have w2:=V5 (u+1) Al
  have w3:bnd (BO T.toTable) (nd u) (nd (u+1))=ws u:=by simp only[bnd,rws u hu2,Option.getD_some]
  have w4:=hwb u hu2
  refine Ei.mk (hP4.outer (i:=nd (u+1 - 1)) Al) rfl ?_
  (refine Aj ?_)
  refine Ei.mk (hP4.inner (i:=nd (u+1 - 1)) (j:=nd (u+1)) Al Al) (congrArg (Value.int .i64) w3) ?_
  (refine Aj ?_)
  refine hK (u+1) _ _ ⟨rfl,rfl,rfl,AK rfl Al,trivial⟩ ⟨sm,R3,Ah,by omega⟩ Al
 all_goals
  have FQ:u=L.n - 1:=by omega
  subst FQ
  (refine Au ?_)
  first
   |(unfold dR;rw[if_neg (show¬sumTo ws (L.n - 1)<0 by omega),if_neg (show¬sumTo ws (L.n - 1)<0 by omega)];done)
   |(unfold dR;rw[if_pos (show sumTo ws (L.n - 1)<0 by omega),if_pos (show sumTo ws (L.n - 1)<0 by omega)];done)

end AE.Tryz.Agr

/- Walks of agree: rings. -/
namespace AE.Tryz.Agr
set_option linter.unusedSimpArgs false
open Go AE AE.Ag AgreeS Go.Proofs
set_option maxRecDepth 100000

theorem ext1:Extern.findNext Tryz.f195=none:=by kernel_rfl
theorem Anu:Extern.find Tryz.f195=some Extern.MapsClone.clone:=by kernel_rfl
theorem Ant:Tryz.prog.funcs[195]? =some Tryz.f195:=rfl
theorem Ans:(Tryz.f195.name== "runtime.NumGoroutine")=false:=by kernel_rfl
theorem jS (xs:Array Value) (w:World):(callFunc 195 xs).run Tryz.prog w=((Extern.MapsClone.clone xs).run Tryz.prog w).andThen fun v w'=>.ok (.value v) w':=by
 unfold callFunc
 have e5:Tryz.f195.body.isNone=true:=rfl
 simp only[Sem.run_bind,program,Sem.run,mark]
 simp only[Result.andThen,Ant,Ans,e5,ext1,Anu,Bool.false_eq_true,if_false,if_true,Sem.run_bind,Sem.run]
 cases(Sem.run Tryz.prog (Extern.MapsClone.clone xs) w)<;>rfl

theorem uH {h:H}{r:Nat}{es:List MapEntry}{c:Nat}(hg:h.get r=some (.map es c)):AW Tryz.prog 106 h.next h [.map (some r)] (fun v h'=>∃r',v= .map (some r')/\h.next<=r'/\r'<h'.next/\h'.get r'=some (.map es c)):=by
 refine oK.call rfl (Nat.le_refl _) ?_
 unfold Acm
 (refine Aj ?_)
 refine TP.raw (Qz (r:=r) (es:=es) (c:=c) jS (by show h.next<=_;simp only[AY];omega) Aa) ?_
 (refine Aj ?_)
 (refine Au ?_)
 exact⟨_,rfl,by simp only[AY];omega,by simp only[Bv,AY];omega,Aa⟩

theorem Jb {lo Br r:Nat}{ts:Ts}{h:H}{kt:TypeId}{z k v:Value}{ok:Bool}{m x:BH}{es:List MapEntry}{c:Nat}(hm:ev ts m= .map (some r)) (hx:ev ts x=k) (hg:h.get r=some (.map es c)) (hf:(F0 Tryz.prog es.isEmpty kt k es).bind (Na z ok es)=some v):
 C6 Tryz.prog lo Br ts h (.lookup kt z ok m x)=some (v,h):=by
 simp only[C6,hm,hx,DV,hg,hf,keep,Option.map_some]
theorem Tp {lo Br r:Nat}{ts:Ts}{h:H}{kt:TypeId}{k:Value}{m x:BH}{es es':List MapEntry}{c i:Nat}(hm:ev ts m= .map (some r)) (hx:ev ts x=k) (hlo:lo<=r) (hg:h.get r=some (.map es c)) (hf:F0 Tryz.prog es.isEmpty kt k es=some (some i)) (he:es.eraseIdx i=es'):
 C6 Tryz.prog lo Br ts h (.delete kt m x)=some (.tuple #[],h.put r (.map es' c)):=by
 simp only[C6,hm,hx,Jv,if_pos hlo,hg,hf,Option.map_some,he]

theorem OO {f g:Nat->Int}(n:Nat) (h:∀i,i<n->f i=g i):A0 f n=A0 g n:=by
 unfold A0
 exact DC n fun i hi=>by rw[h i hi]
theorem Va {r n:Nat}{h:H}{e:TypeId}{f g:Nat->Int}{v:Option Addr}(hfg:∀i,i<n->f i=g i) (G:N5 r h e 1 n (A0 f n) v):N5 r h e 1 n (A0 g n) v:=OO n hfg▸G
theorem dN {r lo n sz off m:Nat}{h:H}{e:TypeId}{cs vs:List Value}{a:Addr}{k:H->Prop}(G:N5 r h e sz n cs (some a)) (hlo:lo<=r) (ho:vs.all Value.oneCell'=true) (hle:off+vs.length<=cs.length) (hm:vs.length=m)
 (hk:∀row,N5 r (h.put r row) e sz n (splice cs off vs) (some a)->k (h.put r row)):Xq lo h (BI a off) m vs k:=by
 obtain⟨a',ha, -, -,hst⟩:=G.load
 simp only[Option.some.injEq]at ha
 subst ha
 obtain⟨row,h1,h2⟩:=hst lo off vs hlo ho hle
 exact .raw h1 hm (hk row h2)
set_option maxHeartbeats 1000000 in
theorem iL {h:H}{lo r n:Nat}{f:Nat->Int}{v:Option Addr}(hlo:lo<=r) (hr:r<h.next) (hn:n<=1000) (G:N5 r h 3 1 n (A0 f n) v):
 AW Tryz.prog 107 lo h [.slice v n 0] (fun _ h'=>N5 r h' 3 1 n (A0 (fun i=>f (n - 1 - i)) n) v/\∀s,s<h.next->s≠r->h'.get s=h.get s):=by
 refine Aa4.call rfl Al ?_
 unfold a107
 obtain⟨a,rfl,ha, -, -⟩:=G.load
 have hn0:0<n:=by obtain⟨_,_,_,_,_,_,_,_,h0⟩:=G.is;exact h0
 (refine Aj ?_)
 refine wp_loop (fun s:Nat=>[(0,.slice (some a) n 0),(2,.int .i64 s),(3,.int .i64 (n - 1 - s))]) (fun s h1=>N5 r h1 3 1 n (A0 (fun i=>if i<s\/n<=i+s then f (n - 1 - i)else f i) n) (some a)/\(∀s,s<h.next->s≠r->h1.get s=h.get s)/\h.next<=h1.next/\2*s<=n+1) (fun s=>n - s) 0
  ⟨rfl,rfl,AK rfl Al,trivial⟩ ⟨?_,?_,Ah,by omega⟩ ?_
 ·refine(OO n fun i hi=>?_)▸G.frame rfl
  rw[if_neg Al]
 ·exact fun s _ _=>rfl
 rintro s g h1 ⟨G1,hsame,hn1,hs⟩ K hK
 obtain⟨a',ha', -,hld,hst⟩:=G1.load
 simp only[Option.some.injEq]at ha'
 subst ha'
 (focus((try with_reducible apply wpC.to);(repeat'((conv=>whnf);first|refine Ak ?_|(apply Fork.mk<;>(intro _;try(exfalso;omega)))|fail));all_goals((conv=>whnf);try with_reducible apply At.mk)))
 ·refine Ei.mk (hld _ 1 _ (by rw[Nat.mul_one];exact Jf Al)) rfl ?_
  (refine Aj ?_)
  refine Ei.mk (hld _ 1 _ (by rw[Nat.mul_one];exact Jf Al)) rfl ?_
  have e1:((n:Int) - 1 - s).toNat=n - 1 - s:=by omega
  rw[if_neg Al,if_neg Al,e1]
  (refine Aj ?_)
  refine dN (r:=r) (G1.frame Ep) hlo rfl (by rw[EL];simp;omega) rfl fun row G2=>?_
  rw[Gn _ _ (i:=s) Al Al]at G2
  (refine Aj ?_)
  rw[e1]
  refine dN (r:=r) (G2.frame Ep) hlo rfl (by rw[EL];simp;omega) rfl fun xn G3=>?_
  rw[Gn _ _ (i:=n - 1 - s) Al Al]at G3
  (refine Aj ?_)
  refine hK (s+1) _ _ ⟨rfl,AK rfl Al,AK rfl Al,trivial⟩ ⟨Va (fun i hi=>?_) (G3.frame Ep),fun j hj hne=>?_,Ah,by omega⟩ Al
  ·simp only[F7]
   by_cases i1:i=n - 1 - s
   ·subst i1
    rw[if_pos rfl,if_pos Al]
    congr 1
    omega
   ·rw[if_neg i1]
    by_cases i2:i=s
    ·subst i2;rw[if_pos rfl,if_pos Al]
    ·rw[if_neg i2]
     by_cases i3:i<s\/n<=i+s
     ·rw[if_pos i3,if_pos Al]
     ·rw[if_neg i3,if_neg Al]
  ·rw[<-hsame j hj hne]
   exact Aw fun y hy=>by(exact Aa)
 ·(refine Au ?_)
  refine⟨Va (fun i hi=>?_) (G1.frame rfl),fun j hj hne=>hsame j hj hne⟩
  by_cases i3:i<s\/n<=i+s
  ·rw[if_pos i3]
  ·rw[if_neg i3]
   congr 1
   omega

end AE.Tryz.Agr
