/- Sides of lines in two unknowns: what they allow, and the greatest bound that they give together. Plain laws; no program in sight. -/
set_option linter.unusedVariables false
set_option linter.unusedSimpArgs false
set_option linter.unusedSectionVars false
namespace AE.Sp
set_option linter.unusedVariables false

structure Sd where
 u:Int
 v:Int
 w:Int
structure Er where
 a:Int
 b:Int
 d:Int
def cr (a b:Sd):Int:=a.u*b.v - a.v*b.u
def dt (a b:Sd):Int:=a.u*b.u+a.v*b.v
def Sd.val (s:Sd) (t:Er):Int:=s.u*t.a+s.v*t.b
def Sd.Nz (s:Sd):Prop:=s.u≠0\/s.v≠0
def Sd.Fit (s:Sd) (t:Er):Prop:=s.w*t.d<=s.val t
theorem sq_pos {a:Int}(h:a≠0):0<a*a:=by
 rcases Int.lt_or_gt_of_ne h with h|h
 ·exact Int.mul_pos_of_neg_of_neg h h
 ·exact Int.mul_pos h h
theorem vw (a:Int):0<=a*a:=by
 by_cases h:a=0
 ·subst h;decide
 ·exact Int.le_of_lt (sq_pos h)
theorem NK {s:Sd}(h:s.Nz):0<dt s s:=by
 unfold dt
 have h1:=vw s.u
 have h2:=vw s.v
 rcases h with h|h
 ·have:=sq_pos h;omega
 ·have:=sq_pos h;omega
theorem I4 {a b:Int}(ha:0<a) (h:0<a*b):0<b:=by
 refine Int.not_le.mp fun hb=>?_
 have:=Int.mul_nonneg_of_nonpos_of_nonpos (show -a<=0 by omega) hb
 rw[Int.neg_mul]at this
 omega
theorem Px {a b:Int}(ha:0<a) (h:0<=a*b):0<=b:=by
 refine Int.not_lt.mp fun hb=>?_
 have:=Int.mul_pos ha (show 0< -b by omega)
 rw[Int.mul_neg]at this
 omega
theorem Hs {a b:Int}(ha:0<a) (h:a*b<=0):b<=0:=by
 have:=Px (b:= -b) ha (by rw[Int.mul_neg];omega)
 omega
theorem Cv {a b:Int}(ha:a≠0) (h:a*b=0):b=0:=(Int.mul_eq_zero.mp h).resolve_left ha

section
variable {S:Nat->Sd}{n:Nat}

structure Clean (S:Nat->Sd) (n:Nat):Prop where
 nz:∀i,i<n->(S i).Nz
 two:∀i j,i<n->j<n->∀x y:Int,0<x->0<y->x* (S i).u+y* (S j).u=0->x* (S i).v+y* (S j).v=0->x* (S i).w+y* (S j).w<=0
 three:∀i j k,i<n->j<n->k<n->0<cr (S j) (S k)->0<cr (S k) (S i)->0<cr (S i) (S j)->cr (S j) (S k) * (S i).w+cr (S k) (S i) * (S j).w+cr (S i) (S j) * (S k).w<=0

theorem Clean.gW (c:Clean S n) {i j:Nat}(hi:i<n) (hj:j<n) {x y:Int}(hx:0<=x) (hy:0<=y) (eu:x* (S i).u+y* (S j).u=0) (ev:x* (S i).v+y* (S j).v=0):x* (S i).w+y* (S j).w<=0:=by
 have zero:∀(k:Nat) (z:Int),k<n->z* (S k).u=0->z* (S k).v=0->z=0:=fun k z hk h1 h2=>by
  refine Classical.byContradiction fun hz=>?_
  rcases c.nz k hk with h|h
  ·exact h (Cv hz h1)
  ·exact h (Cv hz h2)
 by_cases x0:x=0
 ·subst x0
  have:=zero j y hj (by omega) (by omega)
  subst this;omega
 ·by_cases y0:y=0
  ·subst y0
   have:=zero i x hi (by omega) (by omega)
   exact absurd this x0
  ·exact c.two i j hi hj x y (by omega) (by omega) eu ev
theorem opp {a b:Sd}(h:cr a b=0):dt b b*a.u+ -dt a b*b.u=0/\dt b b*a.v+ -dt a b*b.v=0:=by
 unfold cr at h
 unfold dt
 constructor<;>grind
theorem Clean.Adk (c:Clean S n) {i j k:Nat}(hi:i<n) (hj:j<n) (hk:k<n) {x y z:Int}(hx:0<=x) (hy:0<=y) (hz:0<=z) (eu:x* (S i).u+y* (S j).u+z* (S k).u=0) (ev:x* (S i).v+y* (S j).v+z* (S k).v=0)
 (h:cr (S i) (S j)=0) (ho:dt (S i) (S j)<0):x* (S i).w+y* (S j).w+z* (S k).w<=0:=by
 obtain⟨ou,ov⟩:=opp h
 have hp:=NK (c.nz j hj)
 have hq:0< -dt (S i) (S j):=by omega
 generalize dt (S j) (S j)=p at*
 generalize -dt (S i) (S j)=q at*
 have h2:=c.two i j hi hj p q hp hq ou ov
 rcases Int.le_total (q*x) (p*y)with hle|hle
 ·have h3:=c.gW hj hk (x:=p*y - q*x) (y:=p*z) (by omega) (Int.mul_nonneg (by omega) hz) (by grind) (by grind)
  have h4:=Int.mul_nonpos_of_nonneg_of_nonpos hx h2
  refine Hs hp ?_
  have e:p* (x* (S i).w+y* (S j).w+z* (S k).w)=x* (p* (S i).w+q* (S j).w)+((p*y - q*x) * (S j).w+p*z* (S k).w):=by grind
  omega
 ·have h3:=c.gW hi hk (x:=q*x - p*y) (y:=q*z) (by omega) (Int.mul_nonneg (by omega) hz) (by grind) (by grind)
  have h4:=Int.mul_nonpos_of_nonneg_of_nonpos hy h2
  refine Hs hq ?_
  have e:q* (x* (S i).w+y* (S j).w+z* (S k).w)=y* (p* (S i).w+q* (S j).w)+((q*x - p*y) * (S i).w+q*z* (S k).w):=by grind
  omega
theorem Clean.all (c:Clean S n) {i j k:Nat}(hi:i<n) (hj:j<n) (hk:k<n) {x y z:Int}(hx:0<=x) (hy:0<=y) (hz:0<=z) (eu:x* (S i).u+y* (S j).u+z* (S k).u=0) (ev:x* (S i).v+y* (S j).v+z* (S k).v=0):
 x* (S i).w+y* (S j).w+z* (S k).w<=0:=by
 by_cases x0:x=0
 ·subst x0
  have:=c.gW hj hk hy hz (by omega) (by omega)
  omega
 by_cases y0:y=0
 ·subst y0
  have:=c.gW hi hk hx hz (by omega) (by omega)
  omega
 by_cases z0:z=0
 ·subst z0
  have:=c.gW hi hj hx hy (by omega) (by omega)
  omega
 have r1:x*cr (S i) (S j)=z*cr (S j) (S k):=by unfold cr;grind
 have r2:y*cr (S i) (S j)=z*cr (S k) (S i):=by unfold cr;grind
 rcases Int.lt_trichotomy (cr (S i) (S j)) 0 with hc|hc|hc
 ·have a1:0<cr (S k) (S j):=by
   refine I4 (a:=z) (by omega) ?_
   have e:z*cr (S k) (S j)=x* -cr (S i) (S j):=by rw[Int.mul_neg,r1];unfold cr;grind
   rw[e];exact Int.mul_pos (by omega) (by omega)
  have a2:0<cr (S i) (S k):=by
   refine I4 (a:=z) (by omega) ?_
   have e:z*cr (S i) (S k)=y* -cr (S i) (S j):=by rw[Int.mul_neg,r2];unfold cr;grind
   rw[e];exact Int.mul_pos (by omega) (by omega)
  have a3:0<cr (S j) (S i):=by
   have e:cr (S j) (S i)= -cr (S i) (S j):=by unfold cr;grind
   omega
  have h3:=c.three j i k hj hi hk a2 a1 a3
  refine Hs a3 ?_
  have h4:=Int.mul_nonpos_of_nonneg_of_nonpos hz h3
  have e:cr (S j) (S i) * (x* (S i).w+y* (S j).w+z* (S k).w)=z* (cr (S i) (S k) * (S j).w+cr (S k) (S j) * (S i).w+cr (S j) (S i) * (S k).w):=by
   unfold cr at*;grind
  omega
 ·have a1:cr (S j) (S k)=0:=Cv z0 (by rw[<-r1,hc];simp)
  have a2:cr (S k) (S i)=0:=Cv z0 (by rw[<-r2,hc];simp)
  by_cases o1:dt (S i) (S j)<0
  ·exact c.Adk hi hj hk hx hy hz eu ev hc o1
  ·by_cases o2:dt (S i) (S k)<0
   ·have:=c.Adk hi hk hj hx hz hy (by omega) (by omega) (by unfold cr at*;grind) o2
    omega
   ·exfalso
    have e:x*dt (S i) (S i)+y*dt (S i) (S j)+z*dt (S i) (S k)=0:=by unfold dt;grind
    have m1:=Int.mul_pos (show 0<x by omega) (NK (c.nz i hi))
    have m2:=Int.mul_nonneg hy (show 0<=dt (S i) (S j) by omega)
    have m3:=Int.mul_nonneg hz (show 0<=dt (S i) (S k) by omega)
    omega
 ·have a1:0<cr (S j) (S k):=I4 (a:=z) (by omega) (by rw[<-r1];exact Int.mul_pos (by omega) hc)
  have a2:0<cr (S k) (S i):=I4 (a:=z) (by omega) (by rw[<-r2];exact Int.mul_pos (by omega) hc)
  have h3:=c.three i j k hi hj hk a1 a2 hc
  refine Hs hc ?_
  have h4:=Int.mul_nonpos_of_nonneg_of_nonpos hz h3
  have e:cr (S i) (S j) * (x* (S i).w+y* (S j).w+z* (S k).w)=z* (cr (S j) (S k) * (S i).w+cr (S k) (S i) * (S j).w+cr (S i) (S j) * (S k).w):=by
   unfold cr at*;grind
  omega


structure Top (S:Nat->Sd) (n:Nat) (W:Sd) (N D:Int):Prop where
 nz:W.Nz
 dp:0<D
 one:∀i,i<n->∀x k:Int,0<x->0<k->x* (S i).u=k*W.u->x* (S i).v=k*W.v->x* (S i).w*D<=k*N
 two:∀i j,i<n->j<n->0<cr (S i) (S j)->0<=cr W (S j)->0<=cr (S i) W->(cr W (S j) * (S i).w+cr (S i) W* (S j).w) *D<=cr (S i) (S j) *N
 hit:(∃i x k,i<n/\0<x/\0<k/\x* (S i).u=k*W.u/\x* (S i).v=k*W.v/\x* (S i).w*D=k*N)\/
  ∃i j,(i<n/\j<n)/\0<cr (S i) (S j)/\0<=cr W (S j)/\0<=cr (S i) W/\(cr W (S j) * (S i).w+cr (S i) W* (S j).w) *D=cr (S i) (S j) *N

theorem jK {a b:Sd}(ha:a.Nz) (hb:b.Nz) (h:cr a b=0) (ho:¬dt a b<0):0<dt a b:=by
 refine Int.lt_iff_le_and_ne.mpr ⟨by omega,fun e=>?_⟩
 have h1:dt a a*dt b b=dt a b*dt a b+cr a b*cr a b:=by unfold dt cr;grind
 have h2:=Int.mul_pos (NK ha) (NK hb)
 rw[h1,<-e,h]at h2
 omega
theorem Eu (a b:Sd):cr b a= -cr a b:=by unfold cr;grind
theorem KN {a b D:Int}(hD:0<D) (h:a*D<=b*D):a<=b:=Int.le_of_mul_le_mul_right h hD

theorem Top.pos {W:Sd}{N D:Int}(t:Top S n W N D) (c:Clean S n) {i j:Nat}(hi:i<n) (hj:j<n) {x y k:Int}(hx:0<x) (hy:0<y) (hk:0<k) (eu:x* (S i).u+y* (S j).u=k*W.u) (ev:x* (S i).v+y* (S j).v=k*W.v) (hc:0<cr (S i) (S j)):
 (x* (S i).w+y* (S j).w) *D<=k*N:=by
 have r1:k*cr W (S j)=x*cr (S i) (S j):=by unfold cr;grind
 have r2:k*cr (S i) W=y*cr (S i) (S j):=by unfold cr;grind
 have h:=t.two i j hi hj hc (Px hk (by rw[r1];exact Int.mul_nonneg (by omega) (by omega))) (Px hk (by rw[r2];exact Int.mul_nonneg (by omega) (by omega)))
 have h2:=Int.mul_le_mul_of_nonneg_left h (show 0<=k by omega)
 refine Int.le_of_mul_le_mul_left (a:=cr (S i) (S j)) ?_ hc
 generalize cr W (S j)=p at*
 generalize cr (S i) W=q at*
 generalize cr (S i) (S j)=d at*
 have e1:k* ((p* (S i).w+q* (S j).w) *D)=d* ((x* (S i).w+y* (S j).w) *D):=by grind
 have e2:k* (d*N)=d* (k*N):=by ac_rfl
 omega
theorem Top.all {W:Sd}{N D:Int}(t:Top S n W N D) (c:Clean S n) {i j:Nat}(hi:i<n) (hj:j<n) {x y k:Int}(hx:0<=x) (hy:0<=y) (hk:0<k) (eu:x* (S i).u+y* (S j).u=k*W.u) (ev:x* (S i).v+y* (S j).v=k*W.v):
 (x* (S i).w+y* (S j).w) *D<=k*N:=by
 have zz:¬(k*W.u=0/\k*W.v=0):=fun⟨h1,h2⟩=>by
  rcases t.nz with h|h
  ·exact h (Cv (by omega) h1)
  ·exact h (Cv (by omega) h2)
 by_cases x0:x=0
 ·subst x0
  by_cases y0:y=0
  ·subst y0;exact absurd ⟨by omega,by omega⟩ zz
  ·have:=t.one j hj y k (by omega) hk (by omega) (by omega)
   rw[Int.zero_mul,Int.zero_add];exact this
 by_cases y0:y=0
 ·subst y0
  have:=t.one i hi x k (by omega) hk (by omega) (by omega)
  rw[Int.zero_mul,Int.add_zero];exact this
 have hx:0<x:=by omega
 have hy:0<y:=by omega
 rcases Int.lt_trichotomy (cr (S i) (S j)) 0 with hc|hc|hc
 ·have:=t.pos c hj hi hy hx hk (by omega) (by omega) (by rw[Eu];omega)
  rw[Int.add_comm];exact this
 ·obtain⟨ou,ov⟩:=opp hc
  have hp:=NK (c.nz j hj)
  by_cases o:dt (S i) (S j)<0
  ·have hq:0< -dt (S i) (S j):=by omega
   generalize dt (S j) (S j)=p at*
   generalize -dt (S i) (S j)=q at*
   have h2:=c.two i j hi hj p q hp hq ou ov
   rcases Int.le_total (q*x) (p*y)with hle|hle
   ·have h0:0<p*y - q*x:=by
     refine Int.lt_iff_le_and_ne.mpr ⟨by omega,fun e=>zz ⟨Cv (a:=p) (by omega) ?_,Cv (a:=p) (by omega) ?_⟩⟩<;>grind
    have h3:=t.one j hj (p*y - q*x) (p*k) h0 (Int.mul_pos hp hk) (by grind) (by grind)
    have h4:=Int.mul_nonpos_of_nonneg_of_nonpos (show 0<=x*D from Int.mul_nonneg (by omega) (Int.le_of_lt t.dp)) h2
    refine Int.le_of_mul_le_mul_left (a:=p) ?_ hp
    have e:p* ((x* (S i).w+y* (S j).w) *D)=x*D* (p* (S i).w+q* (S j).w)+(p*y - q*x) * (S j).w*D:=by grind
    have e2:p* (k*N)=p*k*N:=by ac_rfl
    omega
   ·have h0:0<q*x - p*y:=by
     refine Int.lt_iff_le_and_ne.mpr ⟨by omega,fun e=>zz ⟨Cv (a:=q) (by omega) ?_,Cv (a:=q) (by omega) ?_⟩⟩<;>grind
    have h3:=t.one i hi (q*x - p*y) (q*k) h0 (Int.mul_pos hq hk) (by grind) (by grind)
    have h4:=Int.mul_nonpos_of_nonneg_of_nonpos (show 0<=y*D from Int.mul_nonneg (by omega) (Int.le_of_lt t.dp)) h2
    refine Int.le_of_mul_le_mul_left (a:=q) ?_ hq
    have e:q* ((x* (S i).w+y* (S j).w) *D)=y*D* (p* (S i).w+q* (S j).w)+(q*x - p*y) * (S i).w*D:=by grind
    have e2:q* (k*N)=q*k*N:=by ac_rfl
    omega
  ·have hs:=jK (c.nz i hi) (c.nz j hj) hc o
   generalize dt (S j) (S j)=p at*
   generalize dt (S i) (S j)=s at*
   have hg:0<x*s+y*p:=by
    have:=Int.mul_pos hx hs
    have:=Int.mul_pos hy hp
    omega
   have h1:=t.one j hj (x*s+y*p) (p*k) hg (Int.mul_pos hp hk) (by grind) (by grind)
   have hu:p* (x*s+y*p) * (S i).u=p* (s*k) *W.u:=by grind
   have hv:p* (x*s+y*p) * (S i).v=p* (s*k) *W.v:=by grind
   have h2:=t.one i hi (p* (x*s+y*p)) (p* (s*k)) (Int.mul_pos hp hg) (Int.mul_pos hp (Int.mul_pos hs hk)) hu hv
   have h3:(x*s+y*p) * (S i).w*D<=s*k*N:=by
    refine Int.le_of_mul_le_mul_left (a:=p) ?_ hp
    have e1:p* ((x*s+y*p) * (S i).w*D)=p* (x*s+y*p) * (S i).w*D:=by ac_rfl
    have e2:p* (s*k*N)=p* (s*k) *N:=by ac_rfl
    omega
   have m1:=Int.mul_le_mul_of_nonneg_left h1 (show 0<=y by omega)
   have m2:=Int.mul_le_mul_of_nonneg_left h3 (show 0<=x by omega)
   refine Int.le_of_mul_le_mul_left (a:=x*s+y*p) ?_ hg
   have e1:(x*s+y*p) * ((x* (S i).w+y* (S j).w) *D)=y* ((x*s+y*p) * (S j).w*D)+x* ((x*s+y*p) * (S i).w*D):=by grind
   have e2:(x*s+y*p) * (k*N)=y* (p*k*N)+x* (s*k*N):=by grind
   omega
 ·exact t.pos c hi hj hx hy hk eu ev hc


def vx (a b:Sd):Er:=⟨a.w*b.v - b.w*a.v,a.u*b.w - b.u*a.w,cr a b⟩
def nr (a:Sd):Er:=⟨a.u*a.w,a.v*a.w,dt a a⟩
theorem fV (a b c:Sd):c.val (vx a b)=cr c b*a.w+cr a c*b.w:=by unfold Sd.val vx cr;grind
theorem wE (a c:Sd):c.val (nr a)=dt c a*a.w:=by unfold Sd.val nr dt;grind
theorem W4 (a b c:Sd):cr a b*c.u=cr c b*a.u+cr a c*b.u/\cr a b*c.v=cr c b*a.v+cr a c*b.v:=by
 unfold cr;constructor<;>grind
theorem Abg {W:Sd}{N D:Int}(t:Top S n W N D) (c:Clean S n) {i j:Nat}(hi:i<n) (hj:j<n) (hc:0<cr (S i) (S j)) (h1:0<cr W (S j)) (h2:0<cr (S i) W) (hit:(cr W (S j) * (S i).w+cr (S i) W* (S j).w) *D=cr (S i) (S j) *N)
 {e:Nat} (he:e<n):(S e).Fit (vx (S i) (S j)):=by
 obtain⟨wu,wv⟩:=W4 (S i) (S j) W
 obtain⟨cu,cv⟩:=W4 (S i) (S j) (S e)
 unfold Sd.Fit
 rw[fV]
 show(S e).w*cr (S i) (S j)<=_
 have hD:=t.dp
 generalize cr W (S j)=x at*
 generalize cr (S i) W=y at*
 generalize cr (S i) (S j)=d at*
 generalize cr (S e) (S j)=α at*
 generalize cr (S i) (S e)=β at*
 by_cases hab:α<=0/\β<=0
 ·have:=c.all he hi hj (x:=d) (y:= -α) (z:= -β) (by omega) (by omega) (by omega) (by grind) (by grind)
  have e1:d* (S e).w+ -α* (S i).w+ -β* (S j).w=(S e).w*d - (α* (S i).w+β* (S j).w):=by grind
  omega
 ·by_cases h:0<α/\x*β<=y*α
  ·have:=t.all c hj he (x:=y*α - x*β) (y:=x*d) (k:=α*d) (by omega) (Int.mul_nonneg (by omega) (by omega)) (Int.mul_pos h.1 hc) (by grind) (by grind)
   have e1:α*d*N=α* (x* (S i).w+y* (S j).w) *D:=by grind
   rw[e1]at this
   have:=KN hD this
   refine Int.le_of_mul_le_mul_left (a:=x) ?_ h1
   have e2:(y*α - x*β) * (S j).w+x*d* (S e).w=x* ((S e).w*d) - x* (β* (S j).w)+y*α* (S j).w:=by grind
   have e3:α* (x* (S i).w+y* (S j).w)=x* (α* (S i).w)+y*α* (S j).w:=by grind
   rw[Int.mul_add]
   omega
  ·have hb:0<β/\y*α<=x*β:=by
    by_cases ha:0<α
    ·have hlt:y*α<x*β:=Int.not_le.mp fun hle=>h ⟨ha,hle⟩
     have:=Int.mul_pos h2 ha
     exact⟨I4 (a:=x) h1 (by omega),by omega⟩
    ·have hb:0<β:=Int.not_le.mp fun hle=>hab ⟨by omega,hle⟩
     have m1:=Int.mul_nonpos_of_nonneg_of_nonpos (show 0<=y by omega) (show α<=0 by omega)
     have m2:=Int.mul_pos h1 hb
     exact⟨hb,by omega⟩
   have:=t.all c hi he (x:=x*β - y*α) (y:=y*d) (k:=β*d) (by omega) (Int.mul_nonneg (by omega) (by omega)) (Int.mul_pos hb.1 hc) (by grind) (by grind)
   have e1:β*d*N=β* (x* (S i).w+y* (S j).w) *D:=by grind
   rw[e1]at this
   have:=KN hD this
   refine Int.le_of_mul_le_mul_left (a:=y) ?_ h2
   have e2:(x*β - y*α) * (S i).w+y*d* (S e).w=y* ((S e).w*d) - y* (α* (S i).w)+x*β* (S i).w:=by grind
   have e3:β* (x* (S i).w+y* (S j).w)=y* (β* (S j).w)+x*β* (S i).w:=by grind
   rw[Int.mul_add]
   omega
theorem arg (num den:Nat->Int) (p:Nat->Prop):∀n,(∀i,i<n->p i->0<den i)->(∃i,i<n/\p i)->∃i,i<n/\p i/\∀j,j<n->p j->num j*den i<=num i*den j
 |0,_,⟨i,h,_⟩=>absurd h (Nat.not_lt_zero _)
 | n + 1,hd,hx=>by
   by_cases hn:∃i,i<n/\p i
   ·obtain⟨i,hi,pi,h⟩:=arg num den p n (fun i hi=>hd i (by omega)) hn
    by_cases pn:p n
    ·rcases Int.le_total (num n*den i) (num i*den n)with hle|hle
     ·refine⟨i,by omega,pi,fun j hj pj=>?_⟩
      by_cases e:j=n
      ·subst e;exact hle
      ·exact h j (by omega) pj
     ·refine⟨n,by omega,pn,fun j hj pj=>?_⟩
      by_cases e:j=n
      ·subst e;exact Int.le_refl _
      ·have h1:=h j (by omega) pj
       have di:=hd i (by omega) pi
       have dn:=hd n (by omega) pn
       have dj:=hd j (by omega) pj
       refine Int.le_of_mul_le_mul_left (a:=den i) ?_ di
       have m1:=Int.mul_le_mul_of_nonneg_right h1 (show 0<=den n by omega)
       have m2:=Int.mul_le_mul_of_nonneg_right hle (show 0<=den j by omega)
       have e1:den i* (num j*den n)=num j*den i*den n:=by ac_rfl
       have e2:den i* (num n*den j)=num n*den i*den j:=by ac_rfl
       have e3:num i*den j*den n=num i*den n*den j:=by ac_rfl
       omega
    ·refine⟨i,by omega,pi,fun j hj pj=>?_⟩
     by_cases e:j=n
     ·subst e;exact absurd pj pn
     ·exact h j (by omega) pj
   ·obtain⟨i,hi,pi⟩:=hx
    have:i=n:=Classical.byContradiction fun h=>hn ⟨i,by omega,pi⟩
    subst this
    refine⟨i,by omega,pi,fun j hj pj=>?_⟩
    by_cases e:j=i
    ·subst e;exact Int.le_refl _
    ·exact absurd ⟨j,by omega,pj⟩ hn

theorem Abe {W:Sd}{N D:Int}(t:Top S n W N D) (c:Clean S n) (pr:∀i j,i<n->j<n->cr (S i) (S j)<0->∃k,k<n/\0<cr (S i) (S k)) {i:Nat}(hi:i<n) {l k:Int}(hl:0<l) (hk:0<k) (eu:l* (S i).u=k*W.u) (ev:l* (S i).v=k*W.v) (hit:l* (S i).w*D=k*N):
 ∃T:Er,((∃j,j<n/\0<cr (S i) (S j)/\T=vx (S i) (S j))\/((∀j,j<n->cr (S i) (S j)=0)/\T=nr (S i)))/\(∀e,e<n->(S e).Fit T)/\W.val T*D=N*T.d:=by
 have hD:=t.dp
 have hb:=NK (c.nz i hi)
 by_cases hx:∃j,j<n/\0<cr (S i) (S j)
 ·obtain⟨j,hj,hc,hmax⟩:=arg (fun e=>(S e).w*dt (S i) (S i) - dt (S i) (S e) * (S i).w) (fun e=>cr (S i) (S e)) (fun e=>0<cr (S i) (S e)) n (fun _ _ h=>h) hx
  refine⟨_,.inl ⟨j,hj,hc,rfl⟩,fun e he=>?_,?_⟩
  ·obtain⟨cu,cv⟩:=W4 (S i) (S j) (S e)
   unfold Sd.Fit
   rw[fV]
   show(S e).w*cr (S i) (S j)<=_
   by_cases hp:0<cr (S i) (S e)
   ·have hm:=hmax e he hp
    refine Int.le_of_mul_le_mul_left (a:=dt (S i) (S i)) ?_ hb
    have e1:dt (S i) (S i) * (cr (S e) (S j) * (S i).w+cr (S i) (S e) * (S j).w) - dt (S i) (S i) * ((S e).w*cr (S i) (S j))=((S j).w*dt (S i) (S i) - dt (S i) (S j) * (S i).w) *cr (S i) (S e) - ((S e).w*dt (S i) (S i) - dt (S i) (S e) * (S i).w) *cr (S i) (S j):=by
     unfold cr dt;grind
    omega
   ·generalize cr (S i) (S j)=d at*
    generalize cr (S e) (S j)=α at*
    generalize cr (S i) (S e)=β at*
    by_cases ha:α<=0
    ·have:=c.all he hi hj (x:=d) (y:= -α) (z:= -β) (by omega) (by omega) (by omega) (by grind) (by grind)
     have e1:d* (S e).w+ -α* (S i).w+ -β* (S j).w=(S e).w*d - (α* (S i).w+β* (S j).w):=by grind
     omega
    ·have:=t.all c he hj (x:=l*d) (y:=l* -β) (k:=α*k) (Int.mul_nonneg (by omega) (by omega)) (Int.mul_nonneg (by omega) (by omega)) (Int.mul_pos (by omega) hk) (by grind) (by grind)
     have e1:α*k*N=l* (α* (S i).w) *D:=by grind
     rw[e1]at this
     have:=KN hD this
     refine Int.le_of_mul_le_mul_left (a:=l) ?_ hl
     have e2:l*d* (S e).w+l* -β* (S j).w=l* ((S e).w*d) - l* (β* (S j).w):=by grind
     rw[Int.mul_add]
     omega
  ·refine Int.eq_of_mul_eq_mul_left (a:=k) (by omega) ?_
   have e1:=fV (S i) (S j) (S i)
   have e2:k*W.val (vx (S i) (S j))=l* (S i).val (vx (S i) (S j)):=by unfold Sd.val;grind
   have e3:cr (S i) (S i)=0:=by unfold cr;grind
   rw[e3]at e1
   show k* (W.val (vx (S i) (S j)) *D)=k* (N*cr (S i) (S j))
   generalize W.val (vx (S i) (S j))=y at*
   generalize (S i).val (vx (S i) (S j))=z at*
   grind
 ·have hz:∀j,j<n->cr (S i) (S j)=0:=fun j hj=>by
   rcases Int.lt_trichotomy (cr (S i) (S j)) 0 with h|h|h
   ·exact absurd (pr i j hi hj h) hx
   ·exact h
   ·exact absurd ⟨j,hj,h⟩ hx
  refine⟨_,.inr ⟨hz,rfl⟩,fun e he=>?_,?_⟩
  ·have he0:=hz e he
   have pu:dt (S i) (S i) * (S e).u=dt (S e) (S i) * (S i).u:=by unfold cr at he0;unfold dt;grind
   have pv:dt (S i) (S i) * (S e).v=dt (S e) (S i) * (S i).v:=by unfold cr at he0;unfold dt;grind
   unfold Sd.Fit
   rw[wE]
   show(S e).w*dt (S i) (S i)<=_
   generalize dt (S i) (S i)=d at*
   generalize dt (S e) (S i)=α at*
   by_cases ha:α<=0
   ·have:=c.gW he hi (x:=d) (y:= -α) (by omega) (by omega) (by grind) (by grind)
    have e1:d* (S e).w+ -α* (S i).w=(S e).w*d - α* (S i).w:=by grind
    omega
   ·have:=t.one e he (l*d) (α*k) (Int.mul_pos hl hb) (Int.mul_pos (by omega) hk) (by grind) (by grind)
    have e1:α*k*N=l* (α* (S i).w) *D:=by grind
    rw[e1]at this
    have:=KN hD this
    refine Int.le_of_mul_le_mul_left (a:=l) ?_ hl
    have e2:l*d* (S e).w=l* ((S e).w*d):=by ac_rfl
    omega
  ·refine Int.eq_of_mul_eq_mul_left (a:=k) (by omega) ?_
   have e1:=wE (S i) (S i)
   have e2:k*W.val (nr (S i))=l* (S i).val (nr (S i)):=by unfold Sd.val;grind
   show k* (W.val (nr (S i)) *D)=k* (N*dt (S i) (S i))
   generalize W.val (nr (S i))=y at*
   generalize (S i).val (nr (S i))=z at*
   grind
theorem Zt {W:Sd}{N D:Int}(t:Top S n W N D) (c:Clean S n) (pr:∀i j,i<n->j<n->cr (S i) (S j)<0->∃k,k<n/\0<cr (S i) (S k)):
 ∃T:Er,((∃i j,(i<n/\j<n)/\0<cr (S i) (S j)/\T=vx (S i) (S j))\/∃i,i<n/\(∀j,j<n->cr (S i) (S j)=0)/\T=nr (S i))/\(∀e,e<n->(S e).Fit T)/\W.val T*D=N*T.d/\0<T.d:=by
 have on:∀i,i<n->∀l k:Int,0<l->0<k->l* (S i).u=k*W.u->l* (S i).v=k*W.v->l* (S i).w*D=k*N->∃T:Er,((∃i j,(i<n/\j<n)/\0<cr (S i) (S j)/\T=vx (S i) (S j))\/∃i,i<n/\(∀j,j<n->cr (S i) (S j)=0)/\T=nr (S i))/\(∀e,e<n->(S e).Fit T)/\W.val T*D=N*T.d/\0<T.d:=by
  intro i hi l k hl hk eu ev hit
  obtain⟨T,h1,h2,h3⟩:=Abe t c pr hi hl hk eu ev hit
  rcases h1 with⟨j,hj,hc,rfl⟩|⟨hz,rfl⟩
  ·exact⟨_,.inl ⟨i,j,⟨hi,hj⟩,hc,rfl⟩,h2,h3,hc⟩
  ·exact⟨_,.inr ⟨i,hi,hz,rfl⟩,h2,h3,NK (c.nz i hi)⟩
 rcases t.hit with⟨i,l,k,hi,hl,hk,eu,ev,hit⟩|⟨i,j,⟨hi,hj⟩,hc,h1,h2,hit⟩
 ·exact on i hi l k hl hk eu ev hit
 ·obtain⟨wu,wv⟩:=W4 (S i) (S j) W
  by_cases x0:cr W (S j)=0
  ·by_cases y0:cr (S i) W=0
   ·exfalso
    rw[x0,y0]at wu wv
    rcases t.nz with h|h
    ·exact h (Cv (a:=cr (S i) (S j)) (by omega) (by omega))
    ·exact h (Cv (a:=cr (S i) (S j)) (by omega) (by omega))
   ·rw[x0]at wu wv hit
    exact on j hj (cr (S i) W) (cr (S i) (S j)) (by omega) hc (by omega) (by omega) (by rw[Int.zero_mul,Int.zero_add]at hit;exact hit)
  ·by_cases y0:cr (S i) W=0
   ·rw[y0]at wu wv hit
    exact on i hi (cr W (S j)) (cr (S i) (S j)) (by omega) hc (by omega) (by omega) (by rw[Int.zero_mul,Int.add_zero]at hit;exact hit)
   ·refine⟨_,.inl ⟨i,j,⟨hi,hj⟩,hc,rfl⟩,fun e he=>Abg t c hi hj hc (by omega) (by omega) hit he,?_,hc⟩
    rw[fV,hit,Int.mul_comm]
    rfl
end
end AE.Sp
