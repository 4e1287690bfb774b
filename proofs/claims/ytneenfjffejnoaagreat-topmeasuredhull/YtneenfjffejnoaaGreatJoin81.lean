/- Walks and plain laws: TopSb, TopBx, TopBy, TopBz, NTopB1. -/
import Derived.Test.YtneenfjffejnoaaGreatJoin85
set_option linter.unusedVariables false
set_option linter.unusedSimpArgs false
set_option linter.unusedSectionVars false

/- A friction line whose points are as far from each other, and which falls by whole numbers between two points. -/
namespace AE.Fair
open Go AE AE.Drag

def E8 (F:Nat->Int):Nat->Int
 |0=>0
 |n+1=>E8 F n+F n
theorem Q7 {F:Nat->Int}{B:Int}:∀{n:Nat},(∀i,i<n->0<=F i/\F i<=B)->0<=E8 F n/\E8 F n<=B*n
 |0,_=>by simp[E8]
 | n+1,h=>by
   have ih:=Q7 (F:=F) (B:=B) (n:=n) fun i hi=>h i Al
   have:=h n Al
   simp only[E8]
   have e:B* ((n+1:Nat):Int)=B*n+B:=by push_cast;rw[Int.mul_add,Int.mul_one]
   rw[e]
   omega
theorem Pt {F:Nat->Int}{n:Nat}(h:∀i,i<n->0<=F i):∀{i:Nat},i<=n->E8 F i<=E8 F n:=by
 induction n with
 | zero => intro i hi;have:i=0:=by omega
           subst this;exact Int.le_refl _
 | succ n ih=>
   intro i hi
   by_cases e:i=n+1
   ·subst e;exact Int.le_refl _
   ·have:=ih (fun i hi=>h i Al) (i:=i) Al
    have:=h n Al
    simp only[E8]
    omega
def pM (F:Nat->Int) (m n:Nat) (i:Nat):Int:=m*E8 F n - m*E8 F i
def aI (r m:Nat) (i:Nat):Int:=r+m*i
theorem Zl (F:Nat->Int) (m n i:Nat):pM F m n (i+1)=pM F m n i - m*F i:=by
 simp only[pM,E8,Int.mul_add];omega
structure Steps (L:Line) (F:Nat->Int) (r m n:Nat):Prop where
 n1:1<=n
 n2:n<=11
 m1:1<=m
 m2:m<=20
 r1:1<=r
 r2:r<=65536
 f:∀i,i<n->0<=F i/\F i<=255
 ln:L.n=n+1
 lm:L.m=n+1
 re:∀i,i<=n->L.re i=aI r m i
 cf:∀i,i<=n->L.cf i=pM F m n i
theorem Steps.Vo {L:Line}{F:Nat->Int}{r m n:Nat}(s:Steps L F r m n) {i:Nat}(hi:i<=n):0<=pM F m n i/\pM F m n i<=56100:=by
 have a:=Q7 s.f
 have b:=Pt (fun i hi=>(s.f i hi).1) hi
 have c:=(Q7 (F:=F) (B:=255) (n:=i) fun k hk=>s.f k Al).1
 have e:pM F m n i=m* (E8 F n - E8 F i):=by simp only[pM,Int.mul_sub]
 have h1:=s.m1;have h2:=s.m2;have h3:=s.n2
 have hn:(n:Int)<=11:=by omega
 have hs:E8 F n<=2805:=by omega
 rw[e]
 refine⟨Int.mul_nonneg Al Al,?_⟩
 have:=Int.mul_le_mul (a:=(m:Int)) (b:=E8 F n - E8 F i) (c:=20) (d:=2805) Al Al Al Al
 omega
theorem Steps.valid {L:Line}{F:Nat->Int}{r m n:Nat}(s:Steps L F r m n):Valid L:=by
 have h1:=s.n1;have h2:=s.n2;have h3:=s.ln;have h4:=s.lm;have h5:=s.m1;have h6:=s.m2;have h7:=s.r1;have h8:=s.r2
 refine⟨by omega,by omega,by omega,fun i hi=>?_⟩
 have bd:∀i,i<=n->1<=aI r m i/\aI r m i<=1000000000:=fun i hi=>by
  unfold aI
  have a:0<=(m:Int) *i:=Int.mul_nonneg Al Al
  have b:(m:Int) *i<=20*11:=Int.mul_le_mul Al Al Al Al
  omega
 have c:=s.Vo (i:=i) Al
 unfold FN
 rw[s.re i Al,s.cf i Al]
 refine⟨(bd i Al).1,(bd i Al).2,c.1,by omega,fun h0=>?_⟩
 obtain⟨k,rfl⟩:∃k,i=k+1:=⟨i - 1,by omega⟩
 rw[Nat.add_sub_cancel,s.re k Al,s.cf k Al,Zl]
 have f:=s.f k Al
 have:0<=(m:Int) *F k:=Int.mul_nonneg Al Al
 refine⟨?_,by omega⟩
 unfold aI
 push_cast
 rw[Int.mul_add,Int.mul_one]
 omega
theorem Steps.Jh {L:Line}{F:Nat->Int}{r m n:Nat}(s:Steps L F r m n) {i j:Nat}(hi:i<n) (hj:j<=m):Drag.Jh L (r+m*i+j)=pM F m n i - j*F i/\inside L (r+m*i+j):=by
 have v:=s.valid
 have h1:=s.n1;have h2:=s.n2;have h3:=s.ln;have h4:=s.lm;have h5:=s.m1;have h6:=s.m2;have h7:=s.r1;have h8:=s.r2
 have low:∀k,k<=i->L.re k<=r+m*i:=fun k hk=>by
  rw[s.re k Al]
  unfold aI
  have:(m:Int) *k<=m*i:=Int.mul_le_mul_of_nonneg_left Al Al
  omega
 have top:∀k,i<k->k<=n->r+m*i+m<=L.re k:=fun k hk hkn=>by
  rw[s.re k hkn]
  unfold aI
  have:(m:Int) * ((i+1:Nat):Int)<=m*k:=Int.mul_le_mul_of_nonneg_left Al Al
  push_cast at this
  rw[Int.mul_add,Int.mul_one]at this
  omega
 have ri:=s.re i Al
 have ri1:=s.re (i+1) Al
 have ins:inside L (r+m*i+j):=by
  refine⟨?_,?_⟩
  ·have:=low 0 Al;omega
  ·rw[h3,Nat.add_sub_cancel]
   have:=top n hi (Nat.le_refl _)
   omega
 refine⟨?_,ins⟩
 by_cases h0:j=0
 ·subst h0
  have e:idx L (r+m*i+(0:Nat))=i:=YM v (fun k hk=>by
   have:=low k Al
   have q:=s.re k Al
   have:=v.dS hk Al
   rw[ri]at this
   unfold aI at this
   simp only[Int.ofNat_zero,Int.add_zero]
   omega) (fun _=>by rw[ri];unfold aI;omega) Al
  unfold Drag.Jh fr
  rw[e,if_pos (by rw[ri];unfold aI;omega),s.cf i Al]
  simp
 ·have e:idx L (r+m*i+j)=i+1:=YM v (fun k hk=>by
   have:=low k Al;omega) (fun _=>by have:=top (i+1) Al Al;omega) Al
  unfold Drag.Jh fr
  rw[e,ri1,Nat.add_sub_cancel,ri,s.cf i Al,s.cf (i+1) Al,Zl]
  have q:aI r m (i+1)=r+m*i+m:=by unfold aI;push_cast;rw[Int.mul_add,Int.mul_one];omega
  rw[q]
  by_cases hm:j=m
  ·subst hm
   rw[if_pos rfl]
  ·rw[if_neg Al]
   unfold aI
   have e1:(r:Int)+m*i+j - (r+m*i)=j:=by omega
   have e2:(r:Int)+m*i+m - (r+m*i)=m:=by omega
   have e3:pM F m n i - (pM F m n i - m*F i)=m*F i:=by omega
   rw[e1,e2,e3,Int.mul_assoc,Int.mul_ediv_cancel_left _ Al,Int.mul_comm (F i)]
theorem Steps.inside {L:Line}{F:Nat->Int}{r m n:Nat}(s:Steps L F r m n) {k:Nat}(hk:k<=n*m):inside L (r+k):=by
 have h1:=s.n1;have h5:=s.m1;have h3:=s.ln
 refine⟨?_,?_⟩
 ·rw[s.re 0 Al];unfold aI;simp;omega
 ·rw[h3,Nat.add_sub_cancel,s.re n (Nat.le_refl _)];unfold aI
  have:((k:Nat):Int)<=((n*m:Nat):Int):=by omega
  push_cast at this
  rw[Int.mul_comm (m:Int)]
  omega
end AE.Fair

/- Greatest and least fractions of sums over places, in plain words. -/
namespace AE.Box
open AE.Fair

theorem Q6 {f g:Nat->Int}:∀{n:Nat},(∀p,p<n->f p<=g p)->E8 f n<=E8 g n
 |0,_=>Int.le_refl _
 | n+1,h=>by
   have:=Q6 (f:=f) (g:=g) (n:=n) fun p hp=>h p Al
   have:=h n Al
   simp only[E8]
   omega
theorem XG (a b:Int) (f g:Nat->Int):∀n:Nat,E8 (fun p=>a*f p - b*g p) n=a*E8 f n - b*E8 g n
 |0=>by simp[E8]
 |n+1=>by simp only[E8,XG a b f g n,Int.mul_add];omega
theorem RQ (a:Int) (f:Nat->Int):∀n:Nat,E8 (fun p=>a*f p) n=a*E8 f n
 |0=>by simp[E8]
 |n+1=>by simp only[E8,RQ a f n,Int.mul_add]
theorem KB {f g:Nat->Int}:∀{n:Nat},(∀p,p<n->f p=g p)->E8 f n=E8 g n
 |0,_=>rfl
 |n+1,h=>by simp only[E8,KB (n:=n) fun p hp=>h p Al,h n Al]

structure Sys where
 n:Nat
 A:Nat->Int->Int
 B:Nat->Int->Int
 lo:Nat->Int
 hi:Nat->Int
def Sys.Valid (S:Sys) (y:Nat->Int):Prop:=∀p,p<S.n->S.lo p<=y p/\y p<=S.hi p
def Sys.num (S:Sys) (y:Nat->Int):Int:=E8 (fun p=>S.A p (y p)) S.n
def Sys.den (S:Sys) (y:Nat->Int):Int:=E8 (fun p=>S.B p (y p)) S.n
def Sys.over (S:Sys) (N D:Int) (y:Nat->Int):Int:=D*S.num y - N*S.den y
def Sys.Best (S:Sys) (s N D:Int) (x:Nat->Int):Prop:=∀p,p<S.n->(S.lo p<=x p/\x p<=S.hi p)/\∀z,S.lo p<=z->z<=S.hi p->s* (D*S.A p z - N*S.B p z)<=s* (D*S.A p (x p) - N*S.B p (x p))
theorem Sys.Ye (S:Sys) (s N D:Int) (y:Nat->Int):s*S.over N D y=E8 (fun p=>s* (D*S.A p (y p) - N*S.B p (y p))) S.n:=by
 rw[RQ]
 unfold Sys.over Sys.num Sys.den
 rw[XG D N (fun p=>S.A p (y p)) (fun p=>S.B p (y p))]
theorem Sys.Best.max {S:Sys}{s N D:Int}{x:Nat->Int}(b:S.Best s N D x) {y:Nat->Int}(hy:S.Valid y):s*S.over N D y<=s*S.over N D x:=by
 rw[S.Ye,S.Ye]
 exact Q6 fun p hp=>(b p hp).2 _ (hy p hp).1 (hy p hp).2
theorem Sys.Best.valid {S:Sys}{s N D:Int}{x:Nat->Int}(b:S.Best s N D x):S.Valid x:=fun p hp=>(b p hp).1

structure Fr where
 n:Int
 d:Int
theorem Fr.ext' {x y:Fr}(h1:x.n=y.n) (h2:x.d=y.d):x=y:=by cases x;cases y;dsimp only at h1 h2;rw[h1,h2]
instance:DecidableEq Fr:=fun x y=>decidable_of_iff (x.n=y.n/\x.d=y.d) ⟨fun h=>Fr.ext' h.1 h.2,fun h=>h▸⟨rfl,rfl⟩⟩
def fr (n d:Int):Fr:=⟨n / (Int.gcd n d:Int),d / (Int.gcd n d:Int)⟩
theorem MI (n d:Int) (hd:0<=d):Int.gcd n d=Nat.gcd n.natAbs d.toNat:=by
 unfold Int.gcd
 congr 1
 omega
theorem RP (n d:Int):n.tdiv (Int.gcd n d:Int)=n / (Int.gcd n d:Int):=Int.tdiv_eq_ediv_of_dvd (Int.gcd_dvd_left ..)
theorem WL (a:Int):fr a 1=⟨a,1⟩:=by
 unfold fr
 rw[Int.gcd_one]
 simp
structure Hh (x:Fr) (n d:Int):Prop where
 d0:0<x.d
 ex:∃g:Int,0<g/\n=x.n*g/\d=x.d*g
theorem fD {n d:Int}(hd:0<d):Hh (fr n d) n d:=by
 have hg:0<(Int.gcd n d:Int):=Int.natCast_pos.2 (Int.gcd_pos_of_ne_zero_right n Al)
 have e1:=Int.ediv_mul_cancel (Int.gcd_dvd_left n d)
 have e2:=Int.ediv_mul_cancel (Int.gcd_dvd_right n d)
 exact⟨Int.ediv_pos_of_pos_of_dvd hd Al (Int.gcd_dvd_right n d),_,hg,e1.symm,e2.symm⟩
theorem Hh.cross {x:Fr}{n d:Int}(k:Hh x n d):x.n*d=n*x.d:=by
 obtain⟨-,g, -,rfl,rfl⟩:=k
 rw[Int.mul_assoc,Int.mul_comm g x.d]
theorem Hh.xW {x:Fr}{n d:Int}(k:Hh x n d):x.d<=d:=by
 obtain⟨h,g,hg, -,rfl⟩:=k
 have:=Int.mul_le_mul_of_nonneg_left (show 1<=g by omega) (show 0<=x.d by omega)
 omega
theorem Kg {a b c:Int}(hc:0<c) (h:a*c<=b*c):a<=b:=Int.le_of_mul_le_mul_right h hc
theorem Hh.le {x y:Fr}{n d n' d':Int}(k:Hh x n d) (k':Hh y n' d') (h:n*d'<=n'*d):x.n*y.d<=y.n*x.d:=by
 obtain⟨h1,g,hg,rfl,rfl⟩:=k
 obtain⟨h2,g',hg',rfl,rfl⟩:=k'
 refine Kg (c:=g*g') (Int.mul_pos hg hg') ?_
 have e1:x.n*y.d* (g*g')=x.n*g* (y.d*g'):=by ac_rfl
 have e2:y.n*x.d* (g*g')=y.n*g'* (x.d*g):=by ac_rfl
 rw[e1,e2]
 exact h
theorem Hh.whole (a:Int):Hh ⟨a,1⟩ a 1:=⟨Int.one_pos,1,by decide,by simp,rfl⟩
theorem LY {n d c:Int}(hd:0<d) (hc:0<c):fr (n*c) (d*c)=fr n d:=by
 have e:(Int.gcd (n*c) (d*c):Int)=(Int.gcd n d:Int) *c:=by
  rw[Int.gcd_mul_right,Int.natCast_mul,Int.natAbs_of_nonneg Al]
 unfold fr
 rw[e,Int.mul_ediv_mul_of_pos_left _ _ hc,Int.mul_ediv_mul_of_pos_left _ _ hc]
theorem oM {n d n' d':Int}(hd:0<d) (hd':0<d') (h:n*d'=n'*d):fr n d=fr n' d':=by
 rw[<-LY hd hd',h,Int.mul_comm d d',LY hd' hd]
structure Sys.Bd (S:Sys) (V M:Int):Prop where
 num:∀y,S.Valid y->0<=S.num y/\S.num y<=V*S.den y
 den:∀y,S.Valid y->0<S.den y/\S.den y<=M
def Sys.val (S:Sys) (y:Nat->Int):Fr:=fr (S.num y) (S.den y)
theorem Sys.wT {S:Sys}{V M:Int}(B:S.Bd V M) {y:Nat->Int}(hy:S.Valid y):Hh (S.val y) (S.num y) (S.den y):=fD (B.den y hy).1
theorem Sys.over_self {S:Sys}{V M:Int}(B:S.Bd V M) {y:Nat->Int}(hy:S.Valid y):S.over (S.val y).n (S.val y).d y=0:=by
 have:=(S.wT B hy).cross
 unfold Sys.over
 rw[Int.mul_comm (S.val y).d,this]
 omega
theorem Sys.done {S:Sys}{V M s:Int}(B:S.Bd V M) {y x:Nat->Int}(hb:S.Best s (S.val y).n (S.val y).d x) (he:S.val x=S.val y):∀z,S.Valid z->s*S.over (S.val y).n (S.val y).d z<=0:=fun z hz=>by
 have:=hb.max hz
 rw[<-he,S.over_self B hb.valid,he]at this
 simpa using this
end AE.Box

/- Hulls in plain words: what is asked, place by place; bounds. -/
namespace AE.Box
open AE.Fair
set_option linter.unusedVariables false

theorem E6 {a b A B:Int}(ha:0<=a/\a<=A) (hb:0<=b/\b<=B):0<=a*b/\a*b<=A*B:=
 ⟨Int.mul_nonneg ha.1 hb.1,Int.mul_le_mul ha.2 hb.2 hb.1 Al⟩
def wt (i n:Nat):Int:=if i=0\/i+1=n then 1 else 2
theorem MZ (i n:Nat):1<=wt i n/\wt i n<=2:=by unfold wt;split<;>omega
structure Geo where
 sp:Int
 st:Int
 n:Nat
 w:Nat
structure Geo.Ok (G:Geo):Prop where
 n1:2<=G.n
 n2:G.n<=10
 w1:2<=G.w
 w2:G.w<=6
 s1:1<=G.sp/\G.sp<=1000
 t1:1<=G.st/\G.st<=100
def Geo.wy (G:Geo) (i k:Nat) (y:Int):Int:=wt i G.n*wt k G.w*y
def Geo.a (G:Geo) (q:Nat) (i k:Nat) (y:Int):Int:=
 if q=0 then G.sp*i*G.wy i k y else if q=1 then G.st*k*G.wy i k y else
  if k+1=G.w then 3*G.st*G.st*k*G.wy i k y+2*wt i G.n*y*y*y else 3*G.st*G.st*k*G.wy i k y
def Geo.b (G:Geo) (q:Nat) (i k:Nat) (y:Int):Int:=if q=0\/q=1 then G.wy i k y else 3*G.st*G.wy i k y

structure Geo.Steps (G:Geo) (i k:Nat) (y:Int):Prop where
 v:0<=wt i G.n*wt k G.w/\wt i G.n*wt k G.w<=4
 wy:0<=wt i G.n*wt k G.w*y/\wt i G.n*wt k G.w*y<=2000
 spi:0<=G.sp*i/\G.sp*i<=10000
 a0:0<=G.sp*i* (wt i G.n*wt k G.w*y)/\G.sp*i* (wt i G.n*wt k G.w*y)<=20000000
 stk:0<=G.st*k/\G.st*k<=600
 a1:0<=G.st*k* (wt i G.n*wt k G.w*y)/\G.st*k* (wt i G.n*wt k G.w*y)<=1200000
 s3:0<=3*G.st/\3*G.st<=300
 ss:0<=3*G.st*G.st/\3*G.st*G.st<=30000
 ssk:0<=3*G.st*G.st*k/\3*G.st*G.st*k<=180000
 a2:0<=3*G.st*G.st*k* (wt i G.n*wt k G.w*y)/\3*G.st*G.st*k* (wt i G.n*wt k G.w*y)<=360000000
 c1:0<=2*wt i G.n/\2*wt i G.n<=4
 c2:0<=2*wt i G.n*y/\2*wt i G.n*y<=2000
 c3:0<=2*wt i G.n*y*y/\2*wt i G.n*y*y<=1000000
 c4:0<=2*wt i G.n*y*y*y/\2*wt i G.n*y*y*y<=500000000
 b2:0<=3*G.st* (wt i G.n*wt k G.w*y)/\3*G.st* (wt i G.n*wt k G.w*y)<=600000
theorem Geo.Ok.steps {G:Geo}(g:G.Ok) {i k:Nat}(hi:i<G.n) (hk:k<G.w) {y:Int}(hy:0<=y/\y<=500):G.Steps i k y:=by
 have w1:=MZ i G.n
 have w2:=MZ k G.w
 have n2:=g.n2
 have m2:=g.w2
 have s1:=g.s1
 have t1:=g.t1
 have v:=E6 (a:=wt i G.n) (b:=wt k G.w) (A:=2) (B:=2) Al Al
 have wy:=E6 v hy
 have spi:=E6 (a:=G.sp) (b:=i) (A:=1000) (B:=10) Al Al
 have a0:=E6 spi wy
 have stk:=E6 (a:=G.st) (b:=k) (A:=100) (B:=6) Al Al
 have a1:=E6 stk wy
 have s3:0<=3*G.st/\3*G.st<=300:=by omega
 have ss:=E6 (a:=3*G.st) (b:=G.st) (A:=300) (B:=100) s3 Al
 have ssk:=E6 (b:=k) (B:=6) ss Al
 have a2:=E6 ssk wy
 have c1:0<=2*wt i G.n/\2*wt i G.n<=4:=by omega
 have c2:=E6 c1 hy
 have c3:=E6 c2 hy
 have c4:=E6 c3 hy
 have b2:=E6 s3 wy
 constructor<;>assumption
theorem Geo.Ok.An7 {G:Geo}(g:G.Ok) {q i k:Nat}(hi:i<G.n) (hk:k<G.w) {y:Int}(hy:0<=y/\y<=500):0<=G.a q i k y/\G.a q i k y<=860000000:=by
 have s:=g.steps hi hk hy
 have:=s.a0
 have:=s.a1
 have:=s.a2
 have:=s.c4
 unfold Geo.a Geo.wy
 split
 ·omega
 ·split
  ·omega
  ·split<;>omega
theorem Geo.Ok.Ahd {G:Geo}(g:G.Ok) {q i k:Nat}(hi:i<G.n) (hk:k<G.w) {y:Int}(hy:0<=y/\y<=500):0<=G.b q i k y/\G.b q i k y<=600000:=by
 have s:=g.steps hi hk hy
 have:=s.wy
 have:=s.b2
 unfold Geo.b Geo.wy
 split<;>omega
theorem Geo.Ok.b_pos {G:Geo}(g:G.Ok) {q i k:Nat}{y:Int}(hy:0<y):0<G.b q i k y:=by
 have w1:=MZ i G.n
 have w2:=MZ k G.w
 have t1:=g.t1
 have v:0<wt i G.n*wt k G.w:=Int.mul_pos Al Al
 have wy:=Int.mul_pos v hy
 have b:=Int.mul_pos (a:=3*G.st) Al wy
 unfold Geo.b Geo.wy
 split<;>omega
theorem Geo.Ok.ab {G:Geo}(g:G.Ok) {q i k:Nat}(hi:i<G.n) (hk:k<G.w) {y:Int}(hy:0<=y/\y<=500):G.a q i k y<=1000000*G.b q i k y:=by
 have s:=g.steps hi hk hy
 have wy:=s.wy
 have w1:=MZ i G.n
 have w2:=MZ k G.w
 have t1:=g.t1
 unfold Geo.a Geo.b Geo.wy
 by_cases h0:q=0
 ·rw[if_pos h0,if_pos (.inl h0)]
  exact Int.mul_le_mul_of_nonneg_right (show G.sp*i<=1000000 by have:=s.spi;omega) wy.1
 by_cases h1:q=1
 ·rw[if_neg h0,if_pos h1,if_pos (.inr h1)]
  exact Int.mul_le_mul_of_nonneg_right (show G.st*k<=1000000 by have:=s.stk;omega) wy.1
 rw[if_neg h0,if_neg h1,if_neg (show¬(q=0\/q=1) by omega)]
 have e1:3*G.st*G.st*k* (wt i G.n*wt k G.w*y)<=1000* (3*G.st* (wt i G.n*wt k G.w*y)):=by
  have:=Int.mul_le_mul_of_nonneg_right (show G.st*k<=1000 by have:=s.stk;omega) s.b2.1
  have e:3*G.st*G.st*k* (wt i G.n*wt k G.w*y)=G.st*k* (3*G.st* (wt i G.n*wt k G.w*y)):=by ac_rfl
  rw[e];exact this
 have b2:=s.b2
 split
 ·rename_i hk1
  have ek:wt k G.w=1:=by unfold wt;rw[if_pos (.inr hk1)]
  have e2:2*wt i G.n*y*y*y<=500000* (3*G.st* (wt i G.n*wt k G.w*y)):=by
   rw[ek,Int.mul_one]
   have yy:=E6 hy hy
   have p0:0<=wt i G.n*y:=Int.mul_nonneg Al hy.1
   have h1:2*wt i G.n*y*y*y=2* (y*y) * (wt i G.n*y):=by ac_rfl
   have h2:=Int.mul_le_mul_of_nonneg_right (show 2* (y*y)<=500000 by omega) p0
   have h3:wt i G.n*y<=3*G.st* (wt i G.n*y):=by
    have:=Int.mul_le_mul_of_nonneg_right (show 1<=3*G.st by omega) p0
    omega
   omega
  omega
 ·omega


theorem Yb {i k n w:Nat}(hi:i<n) (hk:k<w):i*w+k<n*w:=by
 have:(i+1) *w<=n*w:=Nat.mul_le_mul_right w Al
 rw[Nat.succ_mul]at this
 omega
theorem Sv {i k w:Nat}(hk:k<w):(i*w+k) / w=i:=by
 rw[Nat.add_comm,Nat.add_mul_div_right _ _ Al,Nat.div_eq_of_lt hk,Nat.zero_add]
theorem Ss {i k w:Nat}(hk:k<w):(i*w+k)%w=k:=by
 rw[Nat.add_comm,Nat.add_mul_mod_self_right,Nat.mod_eq_of_lt hk]
theorem Ie {p n w:Nat}(hp:p<n*w):p / w<n/\p%w<w/\p / w*w+p%w=p:=by
 have h0:0<w:=by
  rcases Nat.eq_zero_or_pos w with h|h
  ·rw[h,Nat.mul_zero]at hp;omega
  ·exact h
 exact⟨Nat.div_lt_of_lt_mul (by rw[Nat.mul_comm];exact hp),Nat.mod_lt _ h0,by rw[Nat.mul_comm];exact Nat.div_add_mod p w⟩
def Ho (F:Nat->Nat->Int) (w p:Nat):Int:=E8 (fun p=>F (p / w) (p%w)) p
theorem ij (F:Nat->Nat->Int) (w:Nat):Ho F w 0=0:=rfl
theorem ik (F:Nat->Nat->Int) {i k w:Nat}(hk:k<w):Ho F w (i*w+k+1)=Ho F w (i*w+k)+F i k:=by
 unfold Ho
 rw[E8,Sv hk,Ss hk]
theorem VO {F:Nat->Nat->Int}{B:Int}{n w p:Nat}(h:∀i k,i<n->k<w->0<=F i k/\F i k<=B) (hp:p<=n*w):0<=Ho F w p/\Ho F w p<=B*p:=
 Q7 fun j hj=>h _ _ (Ie (Nat.lt_of_lt_of_le hj hp)).1 (Ie (Nat.lt_of_lt_of_le hj hp)).2.1
theorem rI {F H:Nat->Nat->Int}{n w:Nat}(h:∀i k,i<n->k<w->F i k<=H i k):Ho F w (n*w)<=Ho H w (n*w):=
 Q6 fun j hj=>h _ _ (Ie hj).1 (Ie hj).2.1
structure Jr extends Geo where
 lo:Nat->Nat->Int
 hi:Nat->Nat->Int
structure Jr.Ok (H:Jr):Prop extends H.toGeo.Ok where
 pl:∀i k,i<H.n->k<H.w->0<=H.lo i k/\H.lo i k<=H.hi i k/\H.hi i k<=500/\H.hi i k - H.lo i k<=20
 some:∃i k,i<H.n/\k<H.w/\0<H.lo i k
def Jr.sys (H:Jr) (q:Nat):Sys:=⟨H.n*H.w,fun p y=>H.a q (p / H.w) (p%H.w) y,fun p y=>H.b q (p / H.w) (p%H.w) y,fun p=>H.lo (p / H.w) (p%H.w),fun p=>H.hi (p / H.w) (p%H.w)⟩
def Jr.In (H:Jr) (y:Nat->Nat->Int):Prop:=∀i k,i<H.n->k<H.w->H.lo i k<=y i k/\y i k<=H.hi i k
def flat (w:Nat) (y:Nat->Nat->Int):Nat->Int:=fun p=>y (p / w) (p%w)
theorem Jr.In.valid {H:Jr}{y:Nat->Nat->Int}(h:H.In y) (q:Nat):(H.sys q).Valid (flat H.w y):=fun p hp=>h _ _ (Ie hp).1 (Ie hp).2.1
def Jr.num (H:Jr) (q:Nat) (y:Nat->Nat->Int):Int:=Ho (fun i k=>H.a q i k (y i k)) H.w (H.n*H.w)
def Jr.den (H:Jr) (q:Nat) (y:Nat->Nat->Int):Int:=Ho (fun i k=>H.b q i k (y i k)) H.w (H.n*H.w)
def Jr.VF (H:Jr) (y:Nat->Nat->Int):Int:=Ho (fun i k=>H.wy i k (y i k)) H.w (H.n*H.w)
theorem Jr.Ok.nw {H:Jr}(k:H.Ok):4<=H.n*H.w/\H.n*H.w<=60:=⟨Nat.mul_le_mul k.n1 k.w1,Nat.mul_le_mul k.n2 k.w2⟩
theorem Jr.Ok.yin {H:Jr}(k:H.Ok) {y:Nat->Nat->Int}(hy:H.In y) {i j:Nat}(hi:i<H.n) (hj:j<H.w):0<=y i j/\y i j<=500:=by
 have:=k.pl i j hi hj
 have:=hy i j hi hj
 omega
theorem Jr.Ok.xI {H:Jr}(k:H.Ok) (q:Nat) {y:Nat->Nat->Int}(hy:H.In y) {p:Nat}(hp:p<=H.n*H.w):0<=Ho (fun i k=>H.a q i k (y i k)) H.w p/\Ho (fun i k=>H.a q i k (y i k)) H.w p<=51600000000:=by
 have:=VO (F:=fun i k=>H.a q i k (y i k)) (B:=860000000) (n:=H.n) (w:=H.w) (p:=p) (fun i j hi hj=>k.toOk.An7 hi hj (k.yin hy hi hj)) hp
 have:=k.nw
 omega
theorem Jr.Ok.Abp {H:Jr}(k:H.Ok) (q:Nat) {y:Nat->Nat->Int}(hy:H.In y) {p:Nat}(hp:p<=H.n*H.w):0<=Ho (fun i k=>H.b q i k (y i k)) H.w p/\Ho (fun i k=>H.b q i k (y i k)) H.w p<=36000000:=by
 have:=VO (F:=fun i k=>H.b q i k (y i k)) (B:=600000) (n:=H.n) (w:=H.w) (p:=p) (fun i j hi hj=>k.toOk.Ahd hi hj (k.yin hy hi hj)) hp
 have:=k.nw
 omega
theorem Jr.Ok.VD {H:Jr}(k:H.Ok) {y:Nat->Nat->Int}(hy:H.In y) {p:Nat}(hp:p<=H.n*H.w):0<=Ho (fun i k=>H.wy i k (y i k)) H.w p/\Ho (fun i k=>H.wy i k (y i k)) H.w p<=120000:=by
 have:=VO (F:=fun i k=>H.wy i k (y i k)) (B:=2000) (n:=H.n) (w:=H.w) (p:=p) (fun i j hi hj=>(k.toOk.steps hi hj (k.yin hy hi hj)).wy) hp
 have:=k.nw
 omega
theorem lT {F:Nat->Int}{n i:Nat}(h:∀j,j<n->0<=F j) (hi:i<n) (hp:0<F i):0<E8 F n:=by
 have h1:=Pt (F:=F) (n:=n) h (i:=i+1) hi
 have h2:=(Pt (F:=F) (n:=i) (fun j hj=>h j Al) (i:=0) Al)
 simp only[E8]at h1 h2
 omega
theorem Jr.Ok.den_pos {H:Jr}(k:H.Ok) (q:Nat) {y:Nat->Nat->Int}(hy:H.In y):0<H.den q y:=by
 obtain⟨i,j,hi,hj,h0⟩:=k.some
 have hlo:=hy i j hi hj
 refine lT (i:=i*H.w+j) (fun p hp=>(k.toOk.Ahd (Ie hp).1 (Ie hp).2.1 (k.yin hy (Ie hp).1 (Ie hp).2.1)).1) (Yb hi hj) ?_
 dsimp only
 rw[Sv hj,Ss hj]
 exact k.toOk.b_pos Al
theorem Sys.Valid.in {H:Jr}{q:Nat}{y:Nat->Int}(h:(H.sys q).Valid y):H.In (fun i k=>y (i*H.w+k)):=fun i k hi hk=>by
 have:=h (i*H.w+k) (Yb hi hk)
 unfold Jr.sys at this
 dsimp only at this
 rw[Sv hk,Ss hk]at this
 exact this
theorem Jr.xH (H:Jr) (q:Nat) (y:Nat->Int):(H.sys q).num y=H.num q (fun i k=>y (i*H.w+k)):=by
 unfold Sys.num Jr.num Ho
 exact KB fun p hp=>by dsimp only[Jr.sys];rw[(Ie hp).2.2]
theorem Jr.pz (H:Jr) (q:Nat) (y:Nat->Int):(H.sys q).den y=H.den q (fun i k=>y (i*H.w+k)):=by
 unfold Sys.den Jr.den Ho
 exact KB fun p hp=>by dsimp only[Jr.sys];rw[(Ie hp).2.2]
theorem Jr.Ok.bd {H:Jr}(k:H.Ok) (q:Nat):(H.sys q).Bd 1000000 36000000:=by
 refine⟨fun y hy=>?_,fun y hy=>?_⟩
 ·have hi:=Sys.Valid.in hy
  rw[H.xH,H.pz]
  refine⟨(k.xI q hi (Nat.le_refl _)).1,?_⟩
  unfold Jr.num Jr.den Ho
  rw[<-RQ]
  exact Q6 fun p hp=>k.toOk.ab (Ie hp).1 (Ie hp).2.1 (k.yin hi (Ie hp).1 (Ie hp).2.1)
 ·have hi:=Sys.Valid.in hy
  rw[H.pz]
  exact⟨k.den_pos q hi,(k.Abp q hi (Nat.le_refl _)).2⟩
def Jr.val (H:Jr) (q:Nat) (y:Nat->Nat->Int):Fr:=fr (H.num q y) (H.den q y)
structure Fr.Q (x:Fr):Prop where
 n0:0<=x.n
 n1:x.n<=100000000000
 d0:1<=x.d
 d1:x.d<=100000000
def Jr.part (H:Jr) (q:Nat) (x:Fr) (i k:Nat) (y:Int):Int:=x.d*H.a q i k y - x.n*H.b q i k y
end AE.Box

/- Two fractions are compared by their whole parts, and what is left of both, turned over. -/
namespace AE.Box
open AE.Fair

def lt4 (a b c d:Int):Prop:=a*d<c*b
instance (a b c d:Int):Decidable (lt4 a b c d):=by unfold lt4;infer_instance
def says (t:Bool) (a b c d:Int):Prop:=if t then lt4 c d a b else lt4 a b c d
instance (t:Bool) (a b c d:Int):Decidable (says t a b c d):=by unfold says;infer_instance
end AE.Box

/- Walks of box: numbers between two, weights, fractions, what an offset adds. -/
namespace AE.Tryz
open Go AE Go.Proofs AE.Box
set_option maxRecDepth 100000
set_option linter.unusedVariables false

def Kt (f:Nat->Int) (n:Nat) (z:Int):Prop:=∃i,i<n/\z=f i
theorem Kt.mono {f:Nat->Int}{n m:Nat}{z:Int}(k:Kt f n z) (h:n<=m):Kt f m z:=let⟨i,a,b⟩:=k;⟨i,by omega,b⟩
theorem Kt.at {f:Nat->Int}{n i:Nat}{z:Int}(hi:i<n) (h:z=f i):Kt f n z:=⟨i,hi,h⟩
theorem Yv {f:Nat->Int}{i:Nat}(h:i<1):f i<=f 0/\f 0<=f i:=by
 obtain rfl:i=0:=by omega
 exact⟨Int.le_refl _,Int.le_refl _⟩
theorem Adv {h:H}{T:G9}{m:Nat}(hm:m<=h.next) (hT:T.Ok m h) (h1:1<=T.n):AW Tryz.prog 223 h.next h [.slice T.b T.n T.c] (fun v _=>∃z,v= .int .i64 z/\(∀i,i<T.n->z<=T.f i)/\Kt T.f T.n z):=by
 obtain⟨e1,i1,r1,l1⟩:=hT
 refine zj.call rfl (Nat.le_refl _) ?_
 unfold Ahy
 (focus((try with_reducible apply wpC.to);(repeat'((conv=>whnf);first|refine Ak ?_|(apply Fork.mk<;>(intro _;try(exfalso;omega)))|fail));all_goals((conv=>whnf);try with_reducible apply At.mk)))
 refine wp_loop (fun x:Nat × Int=>[(0,.slice T.b T.n T.c),(3,.int .i64 x.2),(4,.int .i64 x.1)]) (fun x h1=>Same h.next h h1/\h.next<=h1.next/\1<=x.1/\x.1<=T.n/\(∀i,i<x.1->x.2<=T.f i)/\Kt T.f x.1 x.2) (fun x=>T.n - x.1) (1,T.f 0) ⟨rfl,rfl,rfl,trivial⟩
  ⟨Aq,Ah,by simp,by simpa using h1,fun i hi=>(Yv hi).2,Kt.at (i:=0) (by simp) rfl⟩ ?_
 rintro⟨s,z⟩ g h2 ⟨q,hn,hs1,hs,hall,hex⟩ K hK
 dsimp only at hs1 hs hall hex
 dsimp only
 by_cases hsn:s<T.n
 ·(focus((try with_reducible apply wpC.to);(repeat'((conv=>whnf);first|refine Ak ?_|(apply Fork.mk<;>(intro _;try(exfalso;omega)))|fail));all_goals((conv=>whnf);try with_reducible apply At.mk)))
  refine hK (s+1,min z (T.f s)) _ _ ⟨rfl,rfl,AK rfl (by dsimp only;omega),trivial⟩ ⟨Aq,Ah,by dsimp only;omega,by dsimp only;omega,fun i hi=>?_,?_⟩ (by dsimp only;omega)
  ·dsimp only at hi⊢
   by_cases e:i=s
   ·subst e;omega
   ·have:=hall i Al;omega
  ·dsimp only
   rcases Int.le_total z (T.f s)with e|e
   ·rw[Int.min_eq_left e];exact hex.mono Al
   ·rw[Int.min_eq_right e];exact Kt.at (i:=s) Al rfl
 ·(focus((try with_reducible apply wpC.to);(repeat'((conv=>whnf);first|refine Ak ?_|(apply Fork.mk<;>(intro _;try(exfalso;omega)))|fail));all_goals((conv=>whnf);try with_reducible apply At.mk)))
  (refine Au ?_)
  obtain rfl:s=T.n:=by omega
  exact⟨_,rfl,hall,hex⟩
theorem Adw {h:H}{T:G9}{m:Nat}(hm:m<=h.next) (hT:T.Ok m h) (h1:1<=T.n):AW Tryz.prog 224 h.next h [.slice T.b T.n T.c] (fun v _=>∃z,v= .int .i64 z/\(∀i,i<T.n->T.f i<=z)/\Kt T.f T.n z):=by
 obtain⟨e1,i1,r1,l1⟩:=hT
 refine zi.call rfl (Nat.le_refl _) ?_
 unfold Ahx
 (focus((try with_reducible apply wpC.to);(repeat'((conv=>whnf);first|refine Ak ?_|(apply Fork.mk<;>(intro _;try(exfalso;omega)))|fail));all_goals((conv=>whnf);try with_reducible apply At.mk)))
 refine wp_loop (fun x:Nat × Int=>[(0,.slice T.b T.n T.c),(3,.int .i64 x.2),(4,.int .i64 x.1)]) (fun x h1=>Same h.next h h1/\h.next<=h1.next/\1<=x.1/\x.1<=T.n/\(∀i,i<x.1->T.f i<=x.2)/\Kt T.f x.1 x.2) (fun x=>T.n - x.1) (1,T.f 0) ⟨rfl,rfl,rfl,trivial⟩
  ⟨Aq,Ah,by simp,by simpa using h1,fun i hi=>(Yv hi).1,Kt.at (i:=0) (by simp) rfl⟩ ?_
 rintro⟨s,z⟩ g h2 ⟨q,hn,hs1,hs,hall,hex⟩ K hK
 dsimp only at hs1 hs hall hex
 dsimp only
 by_cases hsn:s<T.n
 ·(focus((try with_reducible apply wpC.to);(repeat'((conv=>whnf);first|refine Ak ?_|(apply Fork.mk<;>(intro _;try(exfalso;omega)))|fail));all_goals((conv=>whnf);try with_reducible apply At.mk)))
  refine hK (s+1,max z (T.f s)) _ _ ⟨rfl,rfl,AK rfl (by dsimp only;omega),trivial⟩ ⟨Aq,Ah,by dsimp only;omega,by dsimp only;omega,fun i hi=>?_,?_⟩ (by dsimp only;omega)
  ·dsimp only at hi⊢
   by_cases e:i=s
   ·subst e;omega
   ·have:=hall i Al;omega
  ·dsimp only
   rcases Int.le_total z (T.f s)with e|e
   ·rw[Int.max_eq_right e];exact Kt.at (i:=s) Al rfl
   ·rw[Int.max_eq_left e];exact hex.mono Al
 ·(focus((try with_reducible apply wpC.to);(repeat'((conv=>whnf);first|refine Ak ?_|(apply Fork.mk<;>(intro _;try(exfalso;omega)))|fail));all_goals((conv=>whnf);try with_reducible apply At.mk)))
  (refine Au ?_)
  obtain rfl:s=T.n:=by omega
  exact⟨_,rfl,hall,hex⟩
theorem oU {h:H}{T:G9}{m:Nat}{lo hi:Int}(hm:m<=h.next) (hT:T.Ok m h) (h1:1<=T.n):AW Tryz.prog 140 h.next h [.int .i64 lo,.int .i64 hi,.slice T.b T.n T.c] (fun v _=>v= .bool (decide (∀i,i<T.n->lo<=T.f i/\T.f i<=hi))):=by
 refine Aab.call rfl (Nat.le_refl _) ?_
 unfold Ail
 (focus((try with_reducible apply wpC.to);(repeat'((conv=>whnf);first|refine Ak ?_|(apply Fork.mk<;>(intro _;try(exfalso;omega)))|fail));all_goals((conv=>whnf);try with_reducible apply At.mk)))
 apply Ar
 focus(exact Ao)
 focus(exact AQ)
 focus exact Adv (m:=m) Ah (hT.same Aq (Nat.le_refl _)) h1
 rintro _ h2 ⟨x,rfl,hx1,hx2⟩ q hn
 (focus((try with_reducible apply wpC.to);(repeat'((conv=>whnf);first|refine Ak ?_|(apply Fork.mk<;>(intro _;try(exfalso;omega)))|fail));all_goals((conv=>whnf);try with_reducible apply At.mk)))
 ·apply Ar
  focus(exact Ao)
  focus(exact AQ)
  focus exact Adw (m:=m) Ah (hT.same Aq (Nat.le_refl _)) h1
  rintro _ h3 ⟨y,rfl,hy1,hy2⟩ q' hn'
  (focus((try with_reducible apply wpC.to);(repeat'((conv=>whnf);first|refine Ak ?_|(apply Fork.mk<;>(intro _;try(exfalso;omega)))|fail));all_goals((conv=>whnf);try with_reducible apply At.mk)))
  all_goals(refine Au ?_)
  ·exact CI rfl fun i hi=>by have:=hx1 i hi;have:=hy1 i hi;omega
  ·refine Ch rfl fun hc=>?_
   obtain⟨i,hi,rfl⟩:=hy2
   have:=hc i hi
   omega
 ·(refine Au ?_)
  refine Ch rfl fun hc=>?_
  obtain⟨i,hi,rfl⟩:=hx2
  have:=hc i hi
  omega
theorem Ab7 {h:H}{x lo hi:Int}{r:Nat}(hr:r<h.next) (hg:h.get r=some (.cells [.int .i64 x] 2)):AW Tryz.prog 140 h.next h [.int .i64 lo,.int .i64 hi,.slice (some ⟨r,0,none⟩) 1 1] (fun v _=>v= .bool (decide (lo<=x/\x<=hi))):=by
 have:=oU (h:=h) (T:=⟨1,one x,some ⟨r,0,none⟩,⟨r,0,none⟩,1⟩) (m:=h.next) (lo:=lo) (hi:=hi) (Nat.le_refl _) ⟨fun _=>rfl,fun i hi=>by
  obtain rfl:i=0:=by dsimp only at hi;omega
  exact Di (off:=0) hg rfl,fun _=>hr,by dsimp only;omega⟩ (by dsimp only;omega)
 obtain⟨v,h',e,a⟩:=this
 refine⟨v,h',e.trans (congrArg Value.bool ?_),a⟩
 exact decide_eq_decide.2 ⟨fun a=>a 0 (Nat.one_pos),fun a i _=>a⟩
theorem Ab6 {h:H}{x y lo hi:Int}{r:Nat}(hr:r<h.next) (hg:h.get r=some (.cells [.int .i64 x,.int .i64 y] 2)):AW Tryz.prog 140 h.next h [.int .i64 lo,.int .i64 hi,.slice (some ⟨r,0,none⟩) 2 2] (fun v _=>v= .bool (decide ((lo<=x/\x<=hi)/\lo<=y/\y<=hi))):=by
 have:=oU (h:=h) (T:=⟨2,two x y,some ⟨r,0,none⟩,⟨r,0,none⟩,2⟩) (m:=h.next) (lo:=lo) (hi:=hi) (Nat.le_refl _) ⟨fun _=>rfl,fun i hi=>by
  dsimp only at hi
  rcases Nat.lt_or_ge i 1 with h1|h1
  ·obtain rfl:i=0:=by omega
   exact Di (off:=0) hg rfl
  ·obtain rfl:i=1:=by omega
   exact Di (off:=1) hg rfl,fun _=>hr,by dsimp only;omega⟩ (by dsimp only;omega)
 obtain⟨v,h',e,a⟩:=this
 refine⟨v,h',e.trans (congrArg Value.bool ?_),a⟩
 refine decide_eq_decide.2 ⟨fun a=>⟨a 0 (by show 0<2;omega),a 1 (by show 1<2;omega)⟩,fun a i hi=>?_⟩
 dsimp only at hi
 rcases Nat.lt_or_ge i 1 with h1|h1
 ·obtain rfl:i=0:=by omega
  exact a.1
 ·obtain rfl:i=1:=by omega
  exact a.2
theorem Cq {G G':Prop}(g:G') (t:G'->G:=by((apply Ar);(focus exact Ao);(focus exact AQ);(focus((apply Ab7;(focus exact Ah);(focus exact Aa)))))):G:=t g
theorem Co {G G':Prop}(g:G') (t:G'->G:=by((apply Ar);(focus exact Ao);(focus exact AQ);(focus((apply Ab6;(focus exact Ah);(focus exact Aa)))))):G:=t g

theorem XB {h:H}{i n:Nat}(h2:2<=n) (hn:n<1000000) (hi:i<n):AW Tryz.prog 225 h.next h [.agg ⟨[.int .i64 1,.int .i64 2]⟩,.int .i64 i,.int .i64 n] (fun v _=>v= .int .i64 (wt i n)):=by
 refine zg.call rfl (Nat.le_refl _) ?_
 unfold Ahw wt
 by_cases h0:i=0\/i+1=n
 ·rw[if_pos h0]
  (focus((try with_reducible apply wpC.to);(repeat'((conv=>whnf);first|refine Ak ?_|(apply Fork.mk<;>(intro _;try(exfalso;omega)))|fail));all_goals((conv=>whnf);try with_reducible apply At.mk)))
  all_goals((refine Au ?_);rfl)
 ·rw[if_neg h0]
  (focus((try with_reducible apply wpC.to);(repeat'((conv=>whnf);first|refine Ak ?_|(apply Fork.mk<;>(intro _;try(exfalso;omega)))|fail));all_goals((conv=>whnf);try with_reducible apply At.mk)))
  all_goals((refine Au ?_);rfl)

theorem Aex {h:H}{a b:Int}(ha:0<=a/\a<9223372036854775808) (hb:0<b/\b<9223372036854775808):AW Tryz.prog 227 h.next h [.int .i64 a,.int .i64 b] (fun v _=>v= .int .i64 (Int.gcd a b:Int)):=by
 refine ze.call rfl (Nat.le_refl _) ?_
 unfold a227
 (focus((try with_reducible apply wpC.to);(repeat'((conv=>whnf);first|refine Ak ?_|(apply Fork.mk<;>(intro _;try(exfalso;omega)))|fail));all_goals((conv=>whnf);try with_reducible apply At.mk)))
 refine wp_loop (fun s:Nat × Nat=>[(0,.int .i64 s.1),(1,.int .i64 s.2)]) (fun s h1=>Quiet h.next h h1/\Nat.gcd s.1 s.2=Int.gcd a b/\s.1<9223372036854775808/\s.2<9223372036854775808/\(0<s.1\/0<s.2)) (fun s=>s.2) (a.natAbs,b.toNat) ⟨AK rfl (by dsimp only;omega),AK rfl (by dsimp only;omega),trivial⟩ ⟨AO,(MI a b Al).symm,by dsimp only;omega,by dsimp only;omega,by dsimp only;omega⟩ ?_
 rintro⟨x,y⟩ g h1 ⟨q1,hg,hx,hy,hxy⟩ K hK
 dsimp only at hg hx hy hxy⊢
 (focus((try with_reducible apply wpC.to);(repeat'((conv=>whnf);first|refine Ak ?_|(apply Fork.mk<;>(intro _;try(exfalso;omega)))|fail));all_goals((conv=>whnf);try with_reducible apply At.mk)))
 ·refine hK (y,x%y) _ _ ⟨AK rfl (by dsimp only),AK rfl (by dsimp only;omega),trivial⟩ ⟨AO,?_,hy,?_,?_⟩ ?_
  ·dsimp only
   rw[<-hg,Nat.gcd_comm x y]
   exact(Nat.gcd_rec y x).symm▸(Nat.gcd_comm y (x%y))
  ·dsimp only
   have:=Nat.mod_lt x (show 0<y by omega)
   omega
  ·dsimp only;omega
  ·dsimp only
   exact Nat.mod_lt x (show 0<y by omega)
 ·obtain rfl:y=0:=by omega
  (refine Au ?_)
  rw[<-hg]
  simp
theorem U5 {G G':Prop}(g:G') (t:G'->G:=by((apply Ar);(focus exact Ao);(focus exact AQ);(focus((apply Aex;(focus omega);(focus omega)))))):G:=t g
def oN (x:Fr):List Value:=[.int .i64 x.n,.int .i64 x.d]
theorem bX {h:H}{n d:Int}(hn:0<=n/\n<9223372036854775808) (hd:0<d/\d<9223372036854775808):AW Tryz.prog 142 h.next h [.int .i64 n,.int .i64 d] (fun v _=>v= .agg ⟨oN (fr n d)⟩):=by
 have hg0:0<(Int.gcd n d:Int):=Int.natCast_pos.2 (Int.gcd_pos_of_ne_zero_right n Al)
 refine z9.call rfl (Nat.le_refl _) ?_
 unfold Aik
 (focus((try with_reducible apply wpC.to);(repeat'((conv=>whnf);first|refine Ak ?_|((refine U5 ?_);first|((first|apply Ae|apply Ac|apply Ad)<;>intro _ _ _ _<;>try contradiction)|(apply Ab;intro _ _ _))|fail));all_goals((conv=>whnf);try with_reducible apply At.mk)))
 (refine Au ?_)
 rfl
def Nw (G:Geo) (i k:Nat):List Value:=[.int .i64 i,.int .i64 k,.int .i64 (wt i G.n*wt k G.w),.int .i64 (wt i G.n),.bool (decide (k+1=G.w))]
end AE.Tryz
