/- Walks and plain laws: NTopB9, NTopBa, NTopBb, NTopBc, T9Ha, T9Hb. -/
import Derived.Test.YtneenfjffejnoaaGreatJoin80
import Derived.Test.YtneenfjffejnoaaGreatAEthree
set_option linter.unusedVariables false
set_option linter.unusedSimpArgs false
set_option linter.unusedSectionVars false

/- Walks of box: the offsets that are furthest beyond a fraction. -/
namespace AE.Tryz
open Go AE Go.Proofs AE.Box
set_option maxRecDepth 100000
set_option linter.unusedVariables false

theorem XF {F G:Nat->Nat->Int}{w p:Nat}(h:∀j,j<p->F (j / w) (j%w)=G (j / w) (j%w)):Ho F w p=Ho G w p:=KB h
def dw (T:C1) (q:Nat) (x:Fr) (s:Int) (i k:Nat) (y:Int):Prop:=((T.f i k).lo<=y/\y<=(T.f i k).hi)/\∀z,(T.f i k).lo<=z->z<=(T.f i k).hi->s*T.FQ.part q x i k z<=s*T.FQ.part q x i k y
def TQ (T:C1) (q:Nat) (x:Fr) (s:Int) (c:Nat) (Z:Nat->Nat->Int):Prop:=∀j,j<c->dw T q x s (j / T.w 0) (j%T.w 0) (Z (j / T.w 0) (j%T.w 0))
theorem RL {Z:Nat->Nat->Int}{i k w j:Nat}{y:Int}(hj:j<i*w+k):Gx Z i k y (j / w) (j%w)=Z (j / w) (j%w):=by
 unfold Gx
 rw[if_neg]
 rintro⟨h1,h2⟩
 have:=Nat.div_add_mod j w
 rw[h1,h2,Nat.mul_comm]at this
 omega
theorem rB {Z:Nat->Nat->Int}{i k:Nat}{y:Int}:Gx Z i k y i k=y:=by unfold Gx;rw[if_pos ⟨rfl,rfl⟩]
theorem TQ.next {T:C1}{q:Nat}{x:Fr}{s:Int}{i k:Nat}{Z:Nat->Nat->Int}{y:Int}(b:TQ T q x s (i*T.w 0+k) Z) (hk:k<T.w 0) (hy:dw T q x s i k y):TQ T q x s (i*T.w 0+k+1) (Gx Z i k y):=fun j hj=>by
 by_cases e:j=i*T.w 0+k
 ·subst e
  rw[Sv hk,Ss hk,rB]
  exact hy
 ·rw[RL Al]
  exact b j Al
def C1.xC (T:C1) (q:Nat) (x:Fr) (Z:Nat->Nat->Int) (c:Nat):Int:=Ho (fun i k=>T.FQ.part q x i k (Z i k)) (T.w 0) c
end AE.Tryz

/- Walks of box: the offsets that are furthest beyond a fraction. -/
namespace AE.Tryz
open Go AE Go.Proofs AE.Box
set_option maxRecDepth 100000
set_option linter.unusedVariables false

structure ExK (h:H) (T:C1) (p q:Nat) (x:Fr) (s:Int) (i k rp aC:Nat) (rr:Nat->Nat) (r:Nat) (w:Option Addr) (B1 B2 N:Nat) (L:F3) (c:Nat) (Z:Nat->Nat->Int) (X:H):Prop where
 sm:Same h.next h X
 grp:X.get rp=some (.cells [.pointer (some ⟨p,0,none⟩)] 242)
 grw:X.get aC=some (.cells [.func (.func 225) ⟨[.agg ⟨[.int .i64 1,.int .i64 2]⟩]⟩ ⟨[]⟩] 293)
 g0:X.get h.next=some (.cells [.pointer (some ⟨p,0,none⟩)] 242)
 g1:X.get (h.next+1)=some (.cells [.int .i64 x.n,.int .i64 x.d] 57)
 g2:X.get (h.next+2)=some (.cells [.int .i64 s] 2)
 g8:X.get (h.next+10)=some (.cells [.slice w T.n 0] 89)
 gl:X.get B2=some (.loop L)
 g9:X.get B1=some (.cells [.int .i64 (T.xC q x Z c)] 2)
 own:Own (h.next+12) B1 X T.n (T.w 0) rr Z r w
 gt:X.get N=some (.cells [.int .i64 i,.int .i64 k,.int .i64 (wt i T.FQ.n*wt k T.FQ.w),.int .i64 (wt i T.FQ.n),.bool (decide (k+1=T.FQ.w))] 249)
 gr:X.get (N+17)=some (.cells [.int .i64 (T.f i k).lo,.int .i64 (T.f i k).hi] 23)
 nx:N+26<=X.next
 o:h.next+12<=B1/\B1<N/\B2<N/\rp<N/\aC<N
theorem ExK.of {h:H}{T:C1}{p q:Nat}{x:Fr}{s:Int}{i k rp aC:Nat}{rr:Nat->Nat}{r:Nat}{w:Option Addr}{B1 B2 N:Nat}{L:F3}{c:Nat}{Z:Nat->Nat->Int}{X Y:H}(E:ExK h T p q x s i k rp aC rr r w B1 B2 N L c Z X) (hs:∀r,r<N+18->Y.get r=X.get r) (hx:N+26<=Y.next):ExK h T p q x s i k rp aC rr r w B1 B2 N L c Z Y:=
 have o:=E.o
 ⟨fun x hx=>(hs x Al).trans (E.sm x hx),(hs _ Al).trans E.grp,(hs _ Al).trans E.grw,(hs _ Al).trans E.g0,(hs _ Al).trans E.g1,(hs _ Al).trans E.g2,(hs _ Al).trans E.g8,(hs _ Al).trans E.gl,(hs _ Al).trans E.g9,
  E.own.frame (Nat.le_refl _) fun x _ hx=>hs x Al,(hs _ Al).trans E.gt,(hs _ Al).trans E.gr,hx,o⟩
theorem ExK.set {h:H}{T:C1}{p q:Nat}{x:Fr}{s:Int}{i k rp aC:Nat}{rr:Nat->Nat}{r:Nat}{w:Option Addr}{B1 B2 N:Nat}{L:F3}{Z:Nat->Nat->Int}{X:H}(E:ExK h T p q x s i k rp aC rr r w B1 B2 N L (i*T.w 0+k) Z X) (hi:i<T.n) (hk:k<T.w 0) (h1:B1<=rp/\B1<=aC/\B1<=B2) (y:Int):ExK h T p q x s i k rp aC rr r w B1 B2 N L (i*T.w 0+k) (Gx Z i k y) (X.put (rr i) (.cells (A0 (F7 (Z i) k y) (T.w 0)) 2)):=by
 have o:=E.o
 have rg:=E.own.rng i hi
 have hs:∀r,r≠rr i->(X.put (rr i) (.cells (A0 (F7 (Z i) k y) (T.w 0)) 2)).get r=X.get r:=fun r hr=>by simp[H.put,hr]
 have e:T.xC q x (Gx Z i k y) (i*T.w 0+k)=T.xC q x Z (i*T.w 0+k):=XF fun j hj=>by rw[RL hj]
 exact⟨fun x hx=>(hs x Al).trans (E.sm x hx),(hs _ Al).trans E.grp,(hs _ Al).trans E.grw,(hs _ Al).trans E.g0,(hs _ Al).trans E.g1,(hs _ Al).trans E.g2,(hs _ Al).trans E.g8,(hs _ Al).trans E.gl,by rw[e];exact(hs _ Al).trans E.g9,
  E.own.set hi hk y,(hs _ Al).trans E.gt,(hs _ Al).trans E.gr,E.nx,o⟩
theorem dw.first {T:C1}{q:Nat}{x:Fr}{s:Int}{i k:Nat}:∀z,(T.f i k).lo<=z->z<(T.f i k).lo+1->s*T.FQ.part q x i k z<=s*T.FQ.part q x i k (T.f i k).lo:=fun z h1 h2=>by
 obtain rfl:z=(T.f i k).lo:=by omega
 exact Int.le_refl _
end AE.Tryz

/- Walks of box: the search for the ends. -/
namespace AE.Tryz
open Go AE Go.Proofs AE.Box
set_option maxRecDepth 100000
set_option linter.unusedVariables false

theorem PartOf.one' {P:Program}{e:TypeId}{cs:List Value}{off:Nat}{v:Value}(h1:Dc P e=some false) (h2:cs[off]? =some v):PartOf P e false cs off [v]:=⟨h1,by rw[if_neg (by simp)];exact⟨v,h2,rfl⟩⟩
theorem bY (x y:Fr):QF Tryz.prog 2 57 true (oN x) (oN y) (x.n==y.n&&(x.d==y.d&&true)):=by
 refine QF.struct (fs:=?fs) ?ht ?hs ?h
 case ht=>exact Tryz.underlying57
 case hs=>kernel_rfl
 refine Pj.cons (agg:=false) (x:=[.int .i64 x.n]) (y:=[.int .i64 y.n]) (by decide) (PartOf.one' rfl rfl) (PartOf.one' rfl rfl) (QF.int rfl) ?_
 exact Pj.cons (agg:=false) (x:=[.int .i64 x.d]) (y:=[.int .i64 y.d]) (by decide) (PartOf.one' rfl rfl) (PartOf.one' rfl rfl) (QF.int rfl) Pj.nil
theorem WY (x y:Fr):Bl Tryz.prog (Op.equalIn Op.maxDepth 57 (.agg ⟨oN x⟩) (.agg ⟨oN y⟩))=some (decide (x=y)):=by
 have:=(bY x y).run 2 Op.maxDepth (by decide)
 have e:(x.n==y.n&&(x.d==y.d&&true))=decide (x=y):=by
  by_cases h:x=y
  ·subst h;simp
  ·rw[decide_eq_false h]
   by_cases h1:x.n=y.n
   ·have h2:x.d≠y.d:=fun h2=>h (Fr.ext' h1 h2)
    simp[h1,h2]
   ·simp[h1]
 rw[e]at this
 simpa[Kr]using this
theorem TQ.inn {T:C1}{q:Nat}{x:Fr}{s:Int}{Z:Nat->Nat->Int}(b:TQ T q x s (T.n*T.w 0) Z):T.FQ.In Z:=fun i k hi hk=>by
 have hk:k<T.w 0:=hk
 have:=(b (i*T.w 0+k) (Yb hi hk)).1
 rw[Sv hk,Ss hk]at this
 exact this
theorem vN {T:C1}(V:T.Valid):T.FQ.In fun i k=>(T.f i k).hi:=fun i k hi hk=>by
 have:=V.FQ.pl i k hi hk
 exact⟨this.2.1,Int.le_refl _⟩
theorem vF {T:C1}(V:T.Valid):T.FQ.In fun i k=>(T.f i k).lo:=fun i k hi hk=>by
 have:=V.FQ.pl i k hi hk
 exact⟨Int.le_refl _,this.2.1⟩
end AE.Tryz

/- Walks of box: what it answers. -/
namespace AE.Tryz
open Go AE Go.Proofs AE.Box
set_option maxRecDepth 100000
set_option linter.unusedVariables false

theorem XC {h:H}{T:C1}{Y:Ph}{m m':Nat}(hm:m<=h.next) (hm':m'<=h.next) (hT:T.Ok m h) (hY:Y.Ok m' h) (F:Vy T Y):AW Tryz.prog 29 h.next h [.agg ⟨T.cells⟩,.slice Y.b Y.n Y.c] (fun v _=>v= .tuple #[.agg ⟨oN (fr (T.sp*T.st*T.FQ.VF Y.f) 2)⟩,.int .i64 0]):=by
 refine Af8.call rfl (Nat.le_refl _) ?_
 unfold a29 C1.cells
 (focus((try with_reducible apply wpC.to);(repeat'((conv=>whnf);first|refine Ak ?_|(apply Fork.mk<;>(intro _;try(exfalso;omega)))|fail));all_goals((conv=>whnf);try with_reducible apply At.mk)))
 apply Ar
 focus(exact Ao)
 focus(exact AQ)
 focus exact Zh (T:=T) (m:=m) (m':=m') Ah Ah (hT.same Aq (Nat.le_refl _)) (hY.same Aq (Nat.le_refl _)) F
 rintro _ h1 rfl q1 hn1
 have rK:Same h.next h h1:=fun x hx=>(q1.same x Ah).trans Ep
 have g1:h1.get h.next=some (.cells [.int .i64 T.sp,.int .i64 T.st,.slice T.b T.n T.c] 85):=(q1.same _ Ah).trans Aa
 have g2:h1.get (h.next+1)=some (.cells [.int .i64 0,.int .i64 0] 57):=(q1.same _ Ah).trans Aa
 have hn1':h.next+3<=h1.next:=by(exact Ah)
 clear q1 hn1
 (focus((try with_reducible apply wpC.to);(repeat'((conv=>whnf);first|refine Ak ?_|(apply Fork.mk<;>(intro _;try(exfalso;omega)))|fail));all_goals((conv=>whnf);try with_reducible apply At.mk)))
 apply Ar
 focus(exact Ao)
 focus(exact AQ)
 focus exact RG (T:=T) (m:=m) (m':=m') Ah Ah ((hT.same (rK.mono hm) (Nat.le_refl _)).same Aq (Nat.le_refl _)) ((hY.same (rK.mono hm') (Nat.le_refl _)).same Aq (Nat.le_refl _)) F
 rintro _ h2 rfl q2 hn2
 generalize fr (T.sp*T.st*T.FQ.VF Y.f) 2=x
 (focus((try with_reducible apply wpC.to);(repeat'((conv=>whnf);first|refine Ak ?_|(apply Fork.mk<;>(intro _;try(exfalso;omega)))|fail));all_goals((conv=>whnf);try with_reducible apply At.mk)))
 (refine Au ?_)
 rfl
theorem xS {h:H}{x:Rg}{i k:Int}:AW Tryz.prog 72 h.next h [.int .i64 i,.int .i64 k,.agg ⟨x.cells⟩] (fun v _=>v= .int .i64 x.lo):=by
 refine Ae7.call rfl (Nat.le_refl _) ?_
 unfold a72 Rg.cells
 (focus((try with_reducible apply wpC.to);(repeat'((conv=>whnf);first|refine Ak ?_|refine Am ?_|fail));all_goals((conv=>whnf);try with_reducible apply At.mk)))
 (refine Au ?_)
 rfl
theorem yI {h:H}{x:Rg}{i k:Int}:AW Tryz.prog 73 h.next h [.int .i64 i,.int .i64 k,.agg ⟨x.cells⟩] (fun v _=>v= .int .i64 x.hi):=by
 refine Ae6.call rfl (Nat.le_refl _) ?_
 unfold a73 Rg.cells
 (focus((try with_reducible apply wpC.to);(repeat'((conv=>whnf);first|refine Ak ?_|refine Am ?_|fail));all_goals((conv=>whnf);try with_reducible apply At.mk)))
 (refine Au ?_)
 rfl
theorem gQ {h:H}{T:C1}{m:Nat}(hm:m<=h.next) (hT:T.Ok m h) (V:T.Valid):AW Tryz.prog 30 h.next h [.agg ⟨T.cells⟩] (fun v _=>v= .tuple #[.agg ⟨oN (fr (T.sp*T.st*T.FQ.VF fun i k=>(T.f i k).lo) 2)++oN (fr (T.sp*T.st*T.FQ.VF fun i k=>(T.f i k).hi) 2)⟩,.int .i64 0]):=by
 have n1:=V.n1
 refine Af7.call rfl (Nat.le_refl _) ?_
 unfold a30 C1.cells
 (focus((try with_reducible apply wpC.to);(repeat'((conv=>whnf);first|refine Ak ?_|(apply Fork.mk<;>(intro _;try(exfalso;omega)))|fail));all_goals((conv=>whnf);try with_reducible apply At.mk)))
 apply Ar
 focus(exact Ao)
 focus(exact AQ)
 focus exact QB (T:=T) (m:=m) Ah (hT.same Aq (Nat.le_refl _)) V
 rintro _ h1 rfl q1 hn1
 have rK:Same h.next h h1:=fun x hx=>(q1.same x Ah).trans Ep
 have g1:h1.get h.next=some (.cells [.int .i64 T.sp,.int .i64 T.st,.slice T.b T.n T.c] 85):=(q1.same _ Ah).trans Aa
 have g2:h1.get (h.next+1)=some (.cells [.int .i64 0,.int .i64 0,.int .i64 0,.int .i64 0] 93):=(q1.same _ Ah).trans Aa
 have hn1':h.next+3<=h1.next:=by(exact Ah)
 clear q1 hn1
 (focus((try with_reducible apply wpC.to);(repeat'((conv=>whnf);first|refine Ak ?_|(apply Fork.mk<;>(intro _;try(exfalso;omega)))|fail));all_goals((conv=>whnf);try with_reducible apply At.mk)))
 apply Ar
 focus(exact Ao)
 focus(exact AQ)
 focus exact eD (T:=T) (m:=m) (g:=fun i k=>(T.f i k).lo) Ah ((hT.same (rK.mono hm) (Nat.le_refl _)).same Aq (Nat.le_refl _)) V fun i k h1 hi hk q=>Ec xS rfl
 rintro _ h2 ⟨rr,r,w,rfl,O2⟩ q2 hn2
 have R3:Same h.next h h2:=fun x hx=>(q2.same x Ah).trans ((Aw fun y hy=>Aa).trans (rK x hx))
 have g12:h2.get h.next=some (.cells [.int .i64 T.sp,.int .i64 T.st,.slice T.b T.n T.c] 85):=(q2.same _ Ah).trans Aa
 have g22:h2.get (h.next+1)=some (.cells [.int .i64 0,.int .i64 0,.int .i64 0,.int .i64 0] 93):=(q2.same _ Ah).trans Aa
 have yF:h1.next<=h2.next:=by(exact Ah)
 obtain⟨a,rfl,gd⟩:=O2.grid Al
 clear q2 hn2 rK g1 g2
 (focus((try with_reducible apply wpC.to);(repeat'((conv=>whnf);first|refine Ak ?_|(apply Fork.mk<;>(intro _;try(exfalso;omega)))|fail));all_goals((conv=>whnf);try with_reducible apply At.mk)))
 apply Ar
 focus(exact Ao)
 focus(exact AQ)
 focus exact eD (T:=T) (m:=m) (g:=fun i k=>(T.f i k).hi) Ah ((hT.same (R3.mono hm) (Nat.le_refl _)).same Aq (Nat.le_refl _)) V fun i k h1 hi hk q=>Ec yI rfl
 rintro _ h3 ⟨rr',r',w',rfl,O3⟩ q3 Lj
 have qJ:Same h.next h h3:=fun x hx=>(q3.same x Ah).trans ((Aw fun y hy=>Aa).trans (R3 x hx))
 have g13:h3.get h.next=some (.cells [.int .i64 T.sp,.int .i64 T.st,.slice T.b T.n T.c] 85):=(q3.same _ Ah).trans Aa
 have g23:h3.get (h.next+1)=some (.cells [.int .i64 0,.int .i64 0,.int .i64 0,.int .i64 0] 93):=(q3.same _ Ah).trans Aa
 have bI:h2.next<=h3.next:=by(exact Ah)
 have gd':=gd.same (h':=h3) (fun x hx=>(q3.same x Ah).trans Ep) (Nat.le_refl _)
 obtain⟨a',rfl,gd3⟩:=O3.grid Al
 clear q3 Lj R3 g12 g22 gd
 (focus((try with_reducible apply wpC.to);(repeat'((conv=>whnf);first|refine Ak ?_|(apply Fork.mk<;>(intro _;try(exfalso;omega)))|fail));all_goals((conv=>whnf);try with_reducible apply At.mk)))
 apply Ar
 focus(exact Ao)
 focus(exact AQ)
 focus exact RG (T:=T) (Y:=⟨T.n,T.w 0,some a,a,0,fun i=>⟨rr i,0,none⟩,fun _=>T.w 0,fun i k=>(T.f i k).lo⟩) (m:=m) (m':=h2.next) Ah Ah ((hT.same (qJ.mono hm) (Nat.le_refl _)).same Aq (Nat.le_refl _)) (gd'.same (fun x hx=>Aw fun y hy=>Aa) (Nat.le_refl _)) ⟨V,rfl,rfl,vF V⟩
 rintro _ h4 rfl q4 Ng
 have sm4:Same h.next h h4:=fun x hx=>(q4.same x Ah).trans ((Aw fun y hy=>Aa).trans (qJ x hx))
 have g14:h4.get h.next=some (.cells [.int .i64 T.sp,.int .i64 T.st,.slice T.b T.n T.c] 85):=(q4.same _ Ah).trans Aa
 have g24:h4.get (h.next+1)=some (.cells [.int .i64 0,.int .i64 0,.int .i64 0,.int .i64 0] 93):=(q4.same _ Ah).trans Aa
 have tO:h3.next<=h4.next:=by(exact Ah)
 have gd4:=gd3.same (h':=h4) (fun x hx=>(q4.same x Ah).trans Ep) (Nat.le_refl _)
 clear q4 Ng qJ g13 g23 gd3 gd'
 dsimp only
 generalize hx1:fr (T.sp*T.st*T.FQ.VF fun i k=>(T.f i k).lo) 2=x1
 (focus((try with_reducible apply wpC.to);(repeat'((conv=>whnf);first|refine Ak ?_|(apply Fork.mk<;>(intro _;try(exfalso;omega)))|fail));all_goals((conv=>whnf);try with_reducible apply At.mk)))
 apply Ar
 focus(exact Ao)
 focus(exact AQ)
 focus exact RG (T:=T) (Y:=⟨T.n,T.w 0,some a',a',0,fun i=>⟨rr' i,0,none⟩,fun _=>T.w 0,fun i k=>(T.f i k).hi⟩) (m:=m) (m':=h3.next) Ah Ah ((hT.same (sm4.mono hm) (Nat.le_refl _)).same Aq (Nat.le_refl _)) (gd4.same (fun x hx=>Aw fun y hy=>Aa) (Nat.le_refl _)) ⟨V,rfl,rfl,vN V⟩
 rintro _ h5 rfl q5 N4
 dsimp only
 generalize hx2:fr (T.sp*T.st*T.FQ.VF fun i k=>(T.f i k).hi) 2=x2
 (focus((try with_reducible apply wpC.to);(repeat'((conv=>whnf);first|refine Ak ?_|(apply Fork.mk<;>(intro _;try(exfalso;omega)))|fail));all_goals((conv=>whnf);try with_reducible apply At.mk)))
 (refine Au ?_)
 rfl
end AE.Tryz

/- Rows that grow one behind the other; bytes as they come; the volume's number in halves; hulls around a true one. -/
namespace AE.Tryz
open Go AE Go.Proofs AE.Box AE.Fair
set_option maxRecDepth 100000
set_option linter.unusedVariables false

structure SG (lo N:Nat) (X:H) (e1 sz e2:TypeId) (w i:Nat) (rr:Nat->Nat) (vv:Nat->Option Addr) (ro:Nat) (vo:Option Addr) (C:Nat->List Value):Prop where
 row:∀j,j<i->GG (rr j) X e1 sz w (C j) (vv j)
 rng:∀j,j<i->lo<=rr j/\rr j<N
 out:GG ro X e2 1 i (rowsOf (fun j=>[.slice (vv j) w 0]) i) vo
 org:0<i->(lo<=ro/\ro<N)/\∀j,j<i->rr j≠ro
theorem SG.nil {lo N:Nat}{X:H}{e1 sz e2:TypeId}{w:Nat}{rr:Nat->Nat}{vv:Nat->Option Addr}{ro:Nat}{C:Nat->List Value}:SG lo N X e1 sz e2 w 0 rr vv ro none C:=
 ⟨fun j hj=>by omega,fun j hj=>by omega,GG.nil,fun h=>by omega⟩
theorem SG.frame {lo N N':Nat}{X X':H}{e1 sz e2:TypeId}{w i:Nat}{rr:Nat->Nat}{vv:Nat->Option Addr}{ro:Nat}{vo:Option Addr}{C:Nat->List Value}(k:SG lo N X e1 sz e2 w i rr vv ro vo C) (hN:N<=N') (hs:∀x,lo<=x->x<N->X'.get x=X.get x):SG lo N' X' e1 sz e2 w i rr vv ro vo C:=
 ⟨fun j hj=>(k.row j hj).frame fun _=>hs _ (k.rng j hj).1 (k.rng j hj).2,fun j hj=>by have:=k.rng j hj;omega,k.out.frame fun h0=>hs _ (k.org h0).1.1 (k.org h0).1.2,fun h0=>⟨by have:=(k.org h0).1;omega,(k.org h0).2⟩⟩
theorem SG.next {lo N N':Nat}{X X':H}{e1 sz e2:TypeId}{w i:Nat}{rr:Nat->Nat}{vv:Nat->Option Addr}{ro ro' r:Nat}{vo vo' v:Option Addr}{C:Nat->List Value}(k:SG lo N X e1 sz e2 w i rr vv ro vo C) (hN:N<=N') (hlN:lo<=N) (hs:∀x,lo<=x->x<N->(0<i->x≠ro)->X'.get x=X.get x)
 (G:GG r X' e1 sz w (C i) v) (hr:N<=r/\r<N') (G':GG ro' X' e2 1 (i+1) (rowsOf (fun j=>[.slice (vv j) w 0]) i++[.slice v w 0]) vo') (hro:(0<i->ro'=ro)/\(i=0->N<=ro'/\ro'<N'/\ro'≠r)):
 SG lo N' X' e1 sz e2 w (i+1) (fun j=>if j=i then r else rr j) (fun j=>if j=i then v else vv j) ro' vo' C:=by
 refine⟨fun j hj=>?_,fun j hj=>?_,?_,fun _=>⟨?_,fun j hj=>?_⟩⟩
 ·by_cases e:j=i
  ·subst e;simp only[if_true];exact G
  ·simp only[if_neg e]
   have:=k.rng j Al
   exact(k.row j Al).frame fun _=>hs _ this.1 this.2 fun h0=>(k.org h0).2 j Al
 ·by_cases e:j=i
  ·subst e;simp only[if_true];omega
  ·simp only[if_neg e]
   have:=k.rng j Al;omega
 ·have:rowsOf (fun j=>[Value.slice (if j=i then v else vv j) w 0]) (i+1)=rowsOf (fun j=>[Value.slice (vv j) w 0]) i++[.slice v w 0]:=by
   rw[rowsOf,if_pos rfl]
   congr 1
   exact DC i fun j hj=>by rw[if_neg Al]
  rw[this]
  exact G'
 ·rcases Nat.eq_zero_or_pos i with h0|h0
  ·have:=hro.2 h0;omega
  ·have:=hro.1 h0;have:=(k.org h0).1;omega
 ·by_cases e:j=i
  ·simp only[if_pos e]
   rcases Nat.eq_zero_or_pos i with h0|h0
   ·have:=hro.2 h0;omega
   ·have:=hro.1 h0;have:=(k.org h0).1;omega
  ·simp only[if_neg e]
   have:=hro.1 Al
   rw[this]
   exact(k.org Al).2 j Al
theorem SG.vals {lo N n w:Nat}{X:H}{e1 sz e2:TypeId}{rr:Nat->Nat}{vv:Nat->Option Addr}{ro:Nat}{vo:Option Addr}{C:Nat->List Value}(k:SG lo N X e1 sz e2 w n rr vv ro vo C) (hn:0<n):
 ∃a:Addr,vo=some a/\QV X a n (fun i=>.slice (vv i) w 0)/\a.block<N:=by
 obtain⟨a,hv,e,b⟩:=k.out.els (f:=fun j=>[.slice (vv j) w 0]) fun _=>rfl
 refine⟨a,hv hn,fun i hi=>?_,?_⟩
 ·have:=e i hi
  rw[Nat.mul_one]at this
  exact this
 ·have:=b hn;have:=(k.org hn).1;omega
theorem SG.hull {lo N n w:Nat}{X:H}{e2:TypeId}{rr:Nat->Nat}{vv:Nat->Option Addr}{ro:Nat}{vo:Option Addr}{F:Nat->Nat->Rg}{sp st:Int}(k:SG lo N X 23 2 e2 w n rr vv ro vo (fun j=>rowsOf (fun k=>(F j k).cells) w)) (hn:0<n) (hw:0<w) (hn':n<1000) (hw':w<1000):
 ∃Q:C1,Q.Ok N X/\Q.cells=[.int .i64 sp,.int .i64 st,.slice vo n 0]/\Q.sp=sp/\Q.st=st/\Q.n=n/\(∀i,Q.w i=w)/\Q.f=F:=by
 obtain⟨a,hv,hi,hb⟩:=k.vals hn
 have hrow:∀j,j<n->∃a,vv j=some a/\JP X a w 2 (fun k=>(F j k).cells)/\a.block=rr j:=fun j hj=>by
  obtain⟨a,h1,h2,h3⟩:=(k.row j hj).els (f:=fun k=>(F j k).cells) fun _=>rfl
  exact⟨a,h1 hw,h2,h3 hw⟩
 refine⟨⟨sp,st,n,vo,a,0,fun _=>w,vv,fun j=>(vv j).getD ⟨0,0,none⟩,fun _=>0,F⟩,⟨fun _=>hv,hi,fun _=>hb,by dsimp only;omega,fun i hi _=>?_,fun i hi=>?_,fun i hi _=>?_,fun i hi=>by dsimp only;omega⟩,rfl,rfl,rfl,rfl,fun _=>rfl,rfl⟩
 all_goals
  obtain⟨a',h1,h2,h3⟩:=hrow i hi
  have hr:=k.rng i hi
  dsimp only
  rw[h1]
 ·rfl
 ·exact h2
 ·show a'.block<N
  omega
theorem SG.grid {lo N n w:Nat}{X:H}{e2:TypeId}{rr:Nat->Nat}{vv:Nat->Option Addr}{ro:Nat}{vo:Option Addr}{Y:Nat->Nat->Int}(k:SG lo N X 2 1 e2 w n rr vv ro vo (fun j=>A0 (Y j) w)) (hn:0<n) (hw:0<w):
 ∃Q:Ph,Q.Ok N X/\Q.b=vo/\Q.c=0/\Q.n=n/\Q.w=w/\Q.f=Y:=by
 obtain⟨a,hv,hi,hb⟩:=k.vals hn
 have hrow:∀j,j<n->∃a,vv j=some a/\Ints X a w (Y j)/\a.block=rr j:=fun j hj=>by
  have G:=k.row j hj
  unfold A0 at G
  obtain⟨a,h1,h2,h3⟩:=G.els (f:=fun k=>[.int .i64 (Y j k)]) fun _=>rfl
  refine⟨a,h1 hw,fun i hi=>?_,h3 hw⟩
  have:=h2 i hi
  rw[Nat.mul_one]at this
  exact this
 refine⟨⟨n,w,vo,a,0,fun j=>(vv j).getD ⟨0,0,none⟩,fun _=>0,Y⟩,⟨fun _=>hv,fun i hi'=>?_,fun _=>hb,fun i hi=>?_,fun i hi=>?_⟩,rfl,rfl,rfl,rfl,rfl⟩
 ·obtain⟨a',h1, -, -⟩:=hrow i hi'
  have:=hi i hi'
  dsimp only at this⊢
  rw[h1]at this⊢
  exact this
 all_goals
  obtain⟨a',h1,h2,h3⟩:=hrow i hi
  have hr:=k.rng i hi
  dsimp only
  rw[h1]
 ·exact h2
 ·show a'.block<N
  omega

structure ZN where
 n:Nat
 f:Nat->Int
 b:Option Addr
 a:Addr
 c:Nat
structure ZN.Ok (T:ZN) (m:Nat) (h:H):Prop where
 e:0<T.n->T.b=some T.a
 i:QV h T.a T.n (fun i=>.int .u8 (T.f i))
 r:0<T.n->T.a.block<m
 l:T.n<=9223372036854775807
 bd:∀i,i<T.n->0<=T.f i/\T.f i<=255
theorem ZN.Ok.same {T:ZN}{m m':Nat}{h h':H}(k:T.Ok m h) (s:Same m h h') (hm:m<=m'):T.Ok m' h':=
 ⟨k.e,k.i.same s k.r,fun h=>by have:=k.r h;omega,k.l,k.bd⟩
structure kG where
 n:Nat
 f:Nat->ZN
 b:Option Addr
 a:Addr
 c:Nat
structure kG.Ok (T:kG) (m:Nat) (h:H):Prop where
 e:0<T.n->T.b=some T.a
 i:QV h T.a T.n (fun i=>.slice (T.f i).b (T.f i).n (T.f i).c)
 r:0<T.n->T.a.block<m
 l:T.n<=9223372036854775807
 ok:∀i,i<T.n->(T.f i).Ok m h
theorem kG.Ok.same {T:kG}{m m':Nat}{h h':H}(k:T.Ok m h) (s:Same m h h') (hm:m<=m'):T.Ok m' h':=
 ⟨k.e,k.i.same s k.r,fun h=>by have:=k.r h;omega,k.l,fun i hi=>(k.ok i hi).same s hm⟩


def Gq (T:C1) (B:ZN) (i k:Nat):Int:=(T.f i k).lo+if B.n=0 then 0 else B.f ((i*T.w 0+k)%B.n)%((T.f i k).hi - (T.f i k).lo+1)
theorem lN {T:C1}(V:T.Valid) {B:ZN}:T.FQ.In (Gq T B):=fun i k hi hk=>by
 have:=V.pl i k hi hk
 unfold Gk at this
 show(T.f i k).lo<=Gq T B i k/\Gq T B i k<=(T.f i k).hi
 unfold Gq
 split
 ·omega
 ·have h1:=Int.emod_nonneg (B.f ((i*T.w 0+k)%B.n)) (show(T.f i k).hi - (T.f i k).lo+1≠0 by omega)
  have h2:=Int.emod_lt_of_pos (B.f ((i*T.w 0+k)%B.n)) (show 0<(T.f i k).hi - (T.f i k).lo+1 by omega)
  omega
def noise (B:ZN) (p:Nat):Int:=if B.n=0 then 0 else B.f (p%B.n)%10
def MY (T:C1) (Y:Nat->Nat->Int) (B:ZN) (i k:Nat):Rg:=⟨max 0 (Y i k - noise B (i*T.w 0+k)),min 500 (Y i k+noise B (i*T.w 0+k))⟩
theorem Yg {T:ZN}{m:Nat}{h:H}(k:T.Ok m h) (p:Nat):0<=noise T p/\noise T p<=9:=by
 unfold noise
 split
 ·omega
 ·have:=k.bd (p%T.n) (Nat.mod_lt _ Al)
  omega
theorem Rn (N:Int):((fr N 2).d=1\/(fr N 2).d=2)/\(fr N 2).n* (2 / (fr N 2).d)=N:=by
 have k:=fD (n:=N) (d:=2) (by decide)
 have hd:=k.xW
 obtain⟨d0,g,hg,e1,e2⟩:=k
 generalize fr N 2=x at*
 rcases(show x.d=1\/x.d=2 by omega)with h|h
 ·rw[h]at e2⊢
  obtain rfl:g=2:=by omega
  exact⟨.inl rfl,e1.symm⟩
 ·rw[h]at e2⊢
  obtain rfl:g=1:=by omega
  exact⟨.inr rfl,e1.symm⟩
theorem bQ {N:Int}(h0:0<=N):0<=(fr N 2).n/\(fr N 2).n<=N:=by
 obtain⟨h1,h2⟩:=Rn N
 generalize fr N 2=x at*
 rcases h1 with h|h
 ·rw[h]at h2
  have:(2:Int) / 1=2:=rfl
  rw[this]at h2
  omega
 ·rw[h]at h2
  have:(2:Int) / 2=1:=rfl
  rw[this]at h2
  omega
def Ky (T:C1) (Y:Nat->Nat->Int):Int:=T.sp*T.st*T.FQ.VF Y
theorem ZX {T Q:C1}(h1:Q.sp=T.sp) (h2:Q.st=T.st) (h3:Q.n=T.n) (h4:Q.w 0=T.w 0) (Y:Nat->Nat->Int):Ky Q Y=Ky T Y:=by
 have:Q.FQ.VF Y=T.FQ.VF Y:=by
  unfold Jr.VF Geo.wy C1.FQ
  dsimp only
  rw[h3,h4]
 unfold Ky
 rw[h1,h2,this]
theorem dH {T:C1}(V:T.Valid) {Y Z:Nat->Nat->Int}(h:∀i k,i<T.n->k<T.w 0->Y i k<=Z i k):Ky T Y<=Ky T Z:=by
 have s1:=V.s1
 have s2:=V.s2
 have p1:0<=T.sp*T.st:=Int.mul_nonneg Al Al
 exact Int.mul_le_mul_of_nonneg_left (rI (n:=T.n) (w:=T.w 0) fun i k hi hk=>by
  have:=MZ i T.FQ.n
  have:=MZ k T.FQ.w
  exact Int.mul_le_mul_of_nonneg_left (h i k hi hk) (Int.mul_nonneg Al Al)) p1
theorem VE {T:C1}(V:T.Valid) {Y:Nat->Nat->Int}(hY:T.FQ.In Y):0<=Ky T Y/\Ky T Y<=12000000000:=by
 have s1:=V.s1
 have s2:=V.s2
 have vb:0<=T.FQ.VF Y/\T.FQ.VF Y<=120000:=V.FQ.VD hY (p:=T.FQ.n*T.FQ.w) (Nat.le_refl _)
 have p1:=E6 (a:=T.sp) (b:=T.st) (A:=1000) (B:=100) Al Al
 have p2:=E6 p1 vb
 unfold Ky
 omega
theorem Xv {T Q:C1}(V:T.Valid) (W:Q.Valid) {Y:Nat->Nat->Int}{B:ZN}{m:Nat}{h:H}(k:B.Ok m h) (hY:T.FQ.In Y) (h1:Q.sp=T.sp) (h2:Q.st=T.st) (h3:Q.n=T.n) (h4:∀i,Q.w i=T.w 0) (hf:Q.f=MY T Y B):
 Ky Q (fun i k=>(Q.f i k).lo)<=Ky T Y/\Ky T Y<=Ky Q (fun i k=>(Q.f i k).hi):=by
 rw[<-ZX h1 h2 h3 (h4 0) Y]
 have hin:∀i k,i<Q.n->k<Q.w 0->0<=Y i k/\Y i k<=500:=fun i j hi hj=>by
  have a:=V.pl i j Al (by rw[h4]at hj;exact hj)
  have b:=hY i j (by show i<T.n;omega) (by show j<T.w 0;rw[h4]at hj;exact hj)
  unfold Gk at a
  have c1:T.FQ.lo i j=(T.f i j).lo:=rfl
  have c2:T.FQ.hi i j=(T.f i j).hi:=rfl
  omega
 refine⟨dH W fun i j hi hj=>?_,dH W fun i j hi hj=>?_⟩
 all_goals
  have a:=hin i j hi hj
  have b:=Yg k (i*T.w 0+j)
  rw[hf]
  unfold MY
  dsimp only
  omega
end AE.Tryz

/- Walk of law02.True. -/
namespace AE.Tryz
open Go AE Go.Proofs AE.Box AE.Fair
set_option maxRecDepth 100000
set_option linter.unusedVariables false

structure Ajc where
 i:Nat
 z:Nat
 rr:Nat->Nat
 vv:Nat->Option Addr
 ro:Nat
 vo:Option Addr
 N:Nat

theorem oG {r:Nat}{h:H}{e:TypeId}{f:Nat->Int}:GG r h e 1 0 (A0 f 0) none:=by
 have:A0 f 0=[]:=by unfold A0;rfl
 rw[this]
 exact GG.nil
set_option maxHeartbeats 2000000 in
theorem wY {h:H}{T:C1}{B:ZN}{m m':Nat}(hm:m<=h.next) (hm':m'<=h.next) (hT:T.Ok m h) (hB:B.Ok m' h) (V:T.Valid):
 AW Tryz.prog 28 h.next h [.agg ⟨T.cells⟩,.slice B.b B.n B.c] (fun v h'=>∃Q:Ph,v= .slice Q.b Q.n Q.c/\Q.Ok h'.next h'/\Vy T Q/\Q.f=Gq T B):=by
 have n1:=V.n1
 have n2:=V.n2
 have w1:=V.w1
 have w2:=V.w2
 have veq:=V.eq
 have vpl:=V.pl
 have bl:=hB.l
 have bbd:=hB.bd
 have tl:=hT.l
 refine Af9.call rfl (Nat.le_refl _) ?_
 unfold a28 C1.cells
 (focus((try with_reducible apply wpC.to);(repeat'((conv=>whnf);first|refine Ak ?_|(apply Fork.mk<;>(intro _;try(exfalso;omega)))|refine Am ?_|fail));all_goals((conv=>whnf);try with_reducible apply At.mk)))
 refine wp_loop (fun x:Ajc=>[(1,.slice B.b B.n B.c),(2,.pointer (some ⟨h.next,0,none⟩)),(5,.slice x.vo x.i 0),(6,.int .i64 x.z),(7,.int .i64 x.i)])
  (fun x X=>Same h.next h X/\X.get h.next=some (.cells [.int .i64 T.sp,.int .i64 T.st,.slice T.b T.n T.c] 85)/\SG (h.next+1) x.N X 2 1 37 (T.w 0) x.i x.rr x.vv x.ro x.vo (fun j=>A0 (Gq T B j) (T.w 0))/\x.N<=X.next/\h.next+1<=x.N/\x.i<=T.n/\x.z=x.i*T.w 0) (fun x=>T.n - x.i) ⟨0,0,fun _=>0,fun _=>none,0,none,h.next+1⟩ ⟨rfl,rfl,rfl,rfl,rfl,trivial⟩ ⟨Aq,Aa,SG.nil,by dsimp only;(exact Ah),by simp,by simp,by simp⟩ ?_
 rintro⟨i,z,rr,vv,ro,vo,N⟩ g X ⟨sm,g0,S,nx,hN,hi,hz⟩ K hK
 dsimp only at S nx hN hi hz
 dsimp only at hK⊢
 have Am1:z<=60:=by rw[hz];exact Nat.mul_le_mul (show i<=10 by omega) w2
 by_cases hin:i<T.n
 ·have WH:=hT.same (sm.mono hm) (Nat.le_refl _)
  have i1:=WH.i
  have r1:=WH.r
  have e1:=WH.e
  have rei:=WH.re i hin
  have vA:=WH.ri i hin
  have rri:=WH.rr i hin
  have vY:=veq i hin
  (focus((try with_reducible apply wpC.to);(repeat'((conv=>whnf);first|refine Ak ?_|(apply Fork.mk<;>(intro _;try(exfalso;omega)))|refine Am ?_|fail));all_goals((conv=>whnf);try with_reducible apply At.mk)))
  refine wp_loop (fun x:Nat × Nat × Option Addr=>[(1,.slice B.b B.n B.c),(2,.pointer (some ⟨h.next,0,none⟩)),(5,.slice vo i 0),(6,.int .i64 (z+x.1:Nat)),(7,.int .i64 i),(8,.slice x.2.2 x.1 0),(9,.int .i64 x.1)])
   (fun x X2=>Same X.next X X2/\X.next<=X2.next/\GG x.2.1 X2 2 1 x.1 (A0 (Gq T B i) x.1) x.2.2/\(0<x.1->X.next<=x.2.1/\x.2.1<X2.next)/\x.1<=T.w 0) (fun x=>T.w 0 - x.1) (0,0,none) ⟨rfl,rfl,rfl,rfl,rfl,rfl,rfl,trivial⟩ ⟨Aq,Ah,oG,by simp,by simp⟩ ?_
  clear i1 r1 e1 vA
  rintro⟨k,r,v⟩ g2 X2 ⟨R3,nx2,G,hr,hk⟩ K2 hK2
  dsimp only at G hr hk
  dsimp only at hK2⊢
  have xd:Same h.next h X2:=fun y hy=>(R3 y Al).trans (sm y hy)
  have g2':=(R3 h.next Al).trans g0
  by_cases fu:k<T.w 0
  ·have vQ:=hT.same (xd.mono hm) (Nat.le_refl _)
   have i1:=vQ.i
   have r1:=vQ.r
   have e1:=vQ.e
   have vA:=vQ.ri i hin
   have hki:k<T.w i:=by omega
   have pl:=vpl i k hin fu
   unfold Gk at pl
   have hB3:=hB.same (xd.mono hm') (Nat.le_refl _)
   have be:=hB3.e
   have bi:=hB3.i
   have br:=hB3.r
   have ey:Gq T B i k=(T.f i k).lo+if B.n=0 then 0 else B.f ((z+k)%B.n)%((T.f i k).hi - (T.f i k).lo+1):=by rw[hz];rfl
   by_cases hb0:B.n=0
   ·rw[if_pos hb0]at ey
    have ey:(T.f i k).lo=Gq T B i k:=by omega
    (focus((try with_reducible apply wpC.to);(repeat'((conv=>whnf);first|refine Ak ?_|(apply Fork.mk<;>(intro _;try(exfalso;omega)))|refine Am ?_|fail));all_goals((conv=>whnf);try with_reducible apply At.mk)))
    apply EP (r:=r) (n:=k) (m:=1) (cs:=A0 (Gq T B i) k) (nc:=[.int .i64 (Gq T B i k)]) (v:=v)
    case G=>exact G.frame fun h0=>Aw fun y hy=>by have:=hr h0;(exact Aa)
    case hsv=>exact rfl
    case C=>rw[<-ey];exact Cells.one Ez (by unfold AE.far;omega) rfl rfl
    case hm=>omega
    case hlo=>(exact Ah)
    case hlr=>exact fun h0=>by have:=hr h0;exact⟨Ah,Ah⟩
    case hsm=>omega
    intro v' r' row ha hb hc G'
    have hr':X.next<=r':=by
     rcases Nat.eq_zero_or_pos k with h0|h0
     ·have:=ha h0;(exact Ah)
     ·have:=hb h0;have:=hr h0;(exact Ah)
    rw[<-show A0 (Gq T B i) (k+1)=A0 (Gq T B i) k++[.int .i64 (Gq T B i k)] by unfold A0;rfl]at G'
    (focus((try with_reducible apply wpC.to);(repeat'((conv=>whnf);first|refine Ak ?_|(apply Fork.mk<;>(intro _;try(exfalso;omega)))|refine Am ?_|fail));all_goals((conv=>whnf);try with_reducible apply At.mk)))
    exact hK2 (k+1,r',v') _ _ ⟨rfl,rfl,rfl,AK rfl (by dsimp only;omega),rfl,rfl,AK rfl (by dsimp only;omega),trivial⟩ ⟨Aq,Ah,G'.frame fun _=>Aw fun y hy=>Aa,fun _=>⟨hr',by dsimp only;(exact Ah)⟩,by dsimp only;omega⟩ (by dsimp only;omega)
   ·rw[if_neg hb0]at ey
    have hmod:=Nat.mod_lt (z+k) (show 0<B.n by omega)
    have bd:=bbd ((z+k)%B.n) hmod
    have q1:=Int.emod_nonneg (B.f ((z+k)%B.n)) (show(T.f i k).hi - (T.f i k).lo+1≠0 by omega)
    have q2:=Int.emod_lt_of_pos (B.f ((z+k)%B.n)) (show 0<(T.f i k).hi - (T.f i k).lo+1 by omega)
    (focus((try with_reducible apply wpC.to);(repeat'((conv=>whnf);first|refine Ak ?_|(apply Fork.mk<;>(intro _;try(exfalso;omega)))|refine Am ?_|fail));all_goals((conv=>whnf);try with_reducible apply At.mk)))
    rw[<-Int.natCast_emod]
    (focus((try with_reducible apply wpC.to);(repeat'((conv=>whnf);first|refine Ak ?_|(apply Fork.mk<;>(intro _;try(exfalso;omega)))|refine Am ?_|fail));all_goals((conv=>whnf);try with_reducible apply At.mk)))
    rw[Int.toNat_natCast]
    (focus((try with_reducible apply wpC.to);(repeat'((conv=>whnf);first|refine Ak ?_|(apply Fork.mk<;>(intro _;try(exfalso;omega)))|refine Am ?_|fail));all_goals((conv=>whnf);try with_reducible apply At.mk)))
    apply EP (r:=r) (n:=k) (m:=1) (cs:=A0 (Gq T B i) k) (nc:=[.int .i64 (Gq T B i k)]) (v:=v)
    case G=>exact G.frame fun h0=>Aw fun y hy=>by have:=hr h0;(exact Aa)
    case hsv=>exact rfl
    case C=>rw[ey];exact Cells.one Ez (by unfold AE.far;omega) rfl rfl
    case hm=>omega
    case hlo=>(exact Ah)
    case hlr=>exact fun h0=>by have:=hr h0;exact⟨Ah,Ah⟩
    case hsm=>omega
    intro v' r' row ha hb hc G'
    have hr':X.next<=r':=by
     rcases Nat.eq_zero_or_pos k with h0|h0
     ·have:=ha h0;(exact Ah)
     ·have:=hb h0;have:=hr h0;(exact Ah)
    rw[<-show A0 (Gq T B i) (k+1)=A0 (Gq T B i) k++[.int .i64 (Gq T B i k)] by unfold A0;rfl]at G'
    (focus((try with_reducible apply wpC.to);(repeat'((conv=>whnf);first|refine Ak ?_|(apply Fork.mk<;>(intro _;try(exfalso;omega)))|refine Am ?_|fail));all_goals((conv=>whnf);try with_reducible apply At.mk)))
    exact hK2 (k+1,r',v') _ _ ⟨rfl,rfl,rfl,AK rfl (by dsimp only;omega),rfl,rfl,AK rfl (by dsimp only;omega),trivial⟩ ⟨Aq,Ah,G'.frame fun _=>Aw fun y hy=>Aa,fun _=>⟨hr',by dsimp only;(exact Ah)⟩,by dsimp only;omega⟩ (by dsimp only;omega)
  ·obtain rfl:k=T.w 0:=by omega
   have vQ:=hT.same (xd.mono hm) (Nat.le_refl _)
   have i1:=vQ.i
   have r1:=vQ.r
   have e1:=vQ.e
   have hr:=hr Al
   have S2:SG (h.next+1) N X2 2 1 37 (T.w 0) i rr vv ro vo (fun j=>A0 (Gq T B j) (T.w 0)):=S.frame (Nat.le_refl _) fun x h1 h2=>R3 x Al
   have so:=S2.org
   (focus((try with_reducible apply wpC.to);(repeat'((conv=>whnf);first|refine Ak ?_|(apply Fork.mk<;>(intro _;try(exfalso;omega)))|refine Am ?_|fail));all_goals((conv=>whnf);try with_reducible apply At.mk)))
   apply EP (r:=ro) (n:=i) (m:=1) (cs:=rowsOf (fun j=>[.slice (vv j) (T.w 0) 0]) i) (nc:=[.slice v (T.w 0) 0]) (v:=vo)
   case G=>exact S2.out.frame fun h0=>Aw fun y hy=>by have:=so h0;(exact Aa)
   case hsv=>exact rfl
   case C=>exact Cells.one Ez (by unfold AE.far;omega) rfl rfl
   case hm=>omega
   case hlo=>(exact Ah)
   case hlr=>exact fun h0=>by have:=so h0;exact⟨Ah,Ah⟩
   case hsm=>omega
   intro vo' ro' row ha hb hc G'
   have hro:h.next+1<=ro'/\ro'<X2.next+13/\(i=0->N<=ro'/\ro'≠r):=by
    rcases Nat.eq_zero_or_pos i with h0|h0
    ·have:=ha h0;exact⟨Ah,Ah,fun _=>⟨Ah,Ah⟩⟩
    ·have:=hb h0;have:=(so h0).1;exact⟨Ah,Ah,fun h=>by omega⟩
   obtain⟨u1,u2,u3⟩:=hro
   have hz2:z+T.w 0=(i+1) *T.w 0:=by rw[hz,Nat.add_mul,Nat.one_mul]
   (focus((try with_reducible apply wpC.to);(repeat'((conv=>whnf);first|refine Ak ?_|(apply Fork.mk<;>(intro _;try(exfalso;omega)))|refine Am ?_|fail));all_goals((conv=>whnf);try with_reducible apply At.mk)))
   refine hK ⟨i+1,z+T.w 0,fun j=>if j=i then r else rr j,fun j=>if j=i then v else vv j,ro',vo',X2.next+13⟩ _ _ ⟨rfl,rfl,rfl,rfl,AK rfl (by dsimp only;omega),trivial⟩ ⟨Aq,Aa,?_,by dsimp only;(exact Ah),by dsimp only;omega,by dsimp only;omega,hz2⟩ (by dsimp only;omega)
   refine S2.next (N':=X2.next+13) (r:=r) Al Al (fun y h3 h4 h5=>?_) (G.frame fun h0=>?_) ⟨by omega,by omega⟩ (G'.frame fun _=>Aw fun y hy=>Aa) ⟨hb,fun h0=>⟨(u3 h0).1,by omega,(u3 h0).2⟩⟩
   ·have hy:y≠ro':=by
     rcases Nat.eq_zero_or_pos i with h0|h0
     ·have:=u3 h0;omega
     ·have:=hb h0;have:=h5 h0;omega
    exact Aw fun z hz=>by(exact Aa)
   ·have hy:r≠ro':=by
     rcases Nat.eq_zero_or_pos i with h0|h0
     ·have:=u3 h0;omega
     ·have:=hb h0;have:=(so h0).1;omega
    exact Aw fun z hz=>by(exact Aa)
 ·obtain rfl:i=T.n:=by omega
  obtain⟨Q,hQ,qb,qc,qn,qw,qf⟩:=S.grid Al Al
  have WH:=hT.same (sm.mono hm) (Nat.le_refl _)
  (focus((try with_reducible apply wpC.to);(repeat'((conv=>whnf);first|refine Ak ?_|(apply Fork.mk<;>(intro _;try(exfalso;omega)))|refine Am ?_|fail));all_goals((conv=>whnf);try with_reducible apply At.mk)))
  (refine Au ?_)
  exact⟨Q,by rw[qb,qn,qc],hQ.same (fun y hy=>Aw fun z hz=>Aa) Ah,⟨V,qn,qw,by rw[qf];exact lN V⟩,qf⟩
end AE.Tryz
