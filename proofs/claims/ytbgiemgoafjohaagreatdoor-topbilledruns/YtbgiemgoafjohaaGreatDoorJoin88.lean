/- Walks and plain laws: DragSpec, TopSa, NTopSc, TopSp, NTopF1, RunA, RunB, RunC, AECutL. -/
import Derived.Test.YtbgiemgoafjohaaGreatDoorAEthree
import Derived.Test.YtbgiemgoafjohaaGreatDoorT12Code
import Derived.Test.YtbgiemgoafjohaaGreatDoorAEtwo
set_option linter.unusedVariables false
set_option linter.unusedSimpArgs false
set_option linter.unusedSectionVars false

/- What drag computes, in plain words: friction lines. -/
namespace AE.Drag
open Go AE

structure Line where
 n:Nat
 re:Nat->Int
 m:Nat
 cf:Nat->Int
 b1:Option Addr
 a1:Addr
 c1:Nat
 b2:Option Addr
 a2:Addr
 c2:Nat
def Line.cells (L:Line):List Value:=[.slice L.b1 L.n L.c1,.slice L.b2 L.m L.c2]
structure Line.Ok (L:Line) (m:Nat) (h:H):Prop where
 e1:0<L.n->L.b1=some L.a1
 i1:Ints h L.a1 L.n L.re
 r1:0<L.n->L.a1.block<m
 e2:0<L.m->L.b2=some L.a2
 i2:Ints h L.a2 L.m L.cf
 r2:0<L.m->L.a2.block<m
 l1:L.n<=9223372036854775807
 l2:L.m<=9223372036854775807
theorem Line.Ok.same {L:Line}{m m':Nat}{h h':H}(k:L.Ok m h) (s:Same m h h') (hm:m<=m'):L.Ok m' h':=
 ⟨k.e1,k.i1.same s k.r1,fun h=>by have:=k.r1 h;omega,k.e2,k.i2.same s k.r2,fun h=>by have:=k.r2 h;omega,k.l1,k.l2⟩

def bJ (L:Line) (i:Nat):Prop:=1<=L.re i/\L.re i<=1000000000/\0<=L.cf i/\L.cf i<=100000/\(0<i->L.re (i - 1)<L.re i/\L.cf i<=L.cf (i - 1))
structure Valid (L:Line):Prop where
 lo:2<=L.n
 hi:L.n<=12
 eq:L.m=L.n
 pt:∀i,i<L.n->bJ L i

def fr (L:Line) (x:Int) (i:Nat):Int:=if L.re i=x then L.cf i else L.cf (i - 1) - (L.cf (i - 1) - L.cf i) * (x - L.re (i - 1)) / (L.re i - L.re (i - 1))
def inside (L:Line) (x:Int):Prop:=L.re 0<=x/\x<=L.re (L.n - 1)
instance (L:Line) (x:Int):Decidable (inside L x):=by unfold inside;infer_instance


end AE.Drag

/- What fair measures, in plain words: changes of sign of second differences, and the sum of their amounts; and a line with numbers set between its points. -/
namespace AE.Fair
open Go AE

structure MS where
 sign:Int
 ch:Int
 Q5:Int
def WC (s d:Int):Int:=if 0<d then 1 else if d<0 then 2 else s
def MS.step (s:MS) (d:Int):MS:=⟨WC s.sign d,if s.sign≠0/\WC s.sign d≠s.sign then s.ch+1 else s.ch,s.Q5+max d (-d)⟩
def sd (f:Nat->Int) (i:Nat):Int:=f (i - 1) - 2*f i+f (i+1)
def ms (f:Nat->Int):Nat->MS
 |0=>⟨0,0,0⟩
 |k+1=>(ms f k).step (sd f (k+1))
def changes (f:Nat->Int) (n:Nat):Int:=(ms f (n - 2)).ch
def Q5 (f:Nat->Int) (n:Nat):Int:=(ms f (n - 2)).Q5
def Alike (m:Int) (a b:MS):Prop:=a.sign=b.sign/\a.ch=b.ch/\b.Q5=m*a.Q5
theorem Alike.zero {m:Int}{a b:MS}(h:Alike m a b):Alike m (a.step 0) b:=by
 obtain⟨h1,h2,h3⟩:=h
 refine⟨?_,?_,?_⟩<;>simp[MS.step,WC,h1,h2,h3]
theorem Alike.both {m d:Int}{a b:MS}(hm:1<=m) (h:Alike m a b):Alike m (a.step d) (b.step (m*d)):=by
 obtain⟨h1,h2,h3⟩:=h
 have p1:0<m*d↔0<d:=⟨fun h=>Int.lt_of_not_ge fun hd=>by have:=Int.mul_nonneg (a:=m) (b:= -d) Af Af;rw[Int.mul_neg]at this;omega,fun h=>Int.mul_pos Af h⟩
 have p2:m*d<0↔d<0:=⟨fun h=>Int.lt_of_not_ge fun hd=>by have:=Int.mul_nonneg (a:=m) (b:=d) Af Af;omega,fun h=>by have:=Int.mul_pos (a:=m) (b:= -d) Af Af;rw[Int.mul_neg]at this;omega⟩
 have es:WC b.sign (m*d)=WC a.sign d:=by simp only[WC,p1,p2,h1]
 have hb:max (m*d) (-(m*d))=m*max d (-d):=by
  rcases Int.le_total 0 d with hd|hd
  ·have:=Int.mul_nonneg (a:=m) (b:=d) Af hd
   rw[Int.max_eq_left Af,Int.max_eq_left Af]
  ·have:=Int.mul_nonneg (a:=m) (b:= -d) Af Af
   rw[Int.mul_neg]at this
   rw[Int.max_eq_right Af,Int.max_eq_right Af,Int.mul_neg]
 refine⟨?_,?_,?_⟩
 ·simp only[MS.step,es]
 ·simp only[MS.step,es,h1,h2]
 ·simp only[MS.step,hb,h3,Int.mul_add]

structure OL (C g:Nat->Int) (F:Nat->Int) (m n:Nat):Prop where
 pos:1<=m
 fall:∀i,i<n->C (i+1)=C i - m*F i
 at_:∀i j,i<n->j<=m->g (i*m+j)=C i - j*F i
theorem OL.jW {C g F:Nat->Int}{m n:Nat}(h:OL C g F m n) {i j:Nat}(hi:i<n) (hj:j+1<m):sd g (i*m+j+1)=0:=by
 have e1:=h.at_ i j hi Af
 have e2:=h.at_ i (j+1) hi Af
 have e3:=h.at_ i (j+2) hi Af
 simp only[sd,Nat.add_sub_cancel]
 rw[show i*m+j+1=i*m+(j+1) by omega,show i*m+(j+1)+1=i*m+(j+2) by omega,e1,e2,e3]
 have q1:((j+1:Nat):Int) *F i=j*F i+F i:=by push_cast;rw[Int.add_mul,Int.one_mul]
 have q2:((j+2:Nat):Int) *F i=j*F i+2*F i:=by push_cast;simp only[Int.add_mul];omega
 rw[q1,q2]
 omega
theorem OL.jX {C g F:Nat->Int}{m n:Nat}(h:OL C g F m n) {i:Nat}(hi:i+1<n):sd g ((i+1) *m)=F i - F (i+1)/\sd C (i+1)=m*sd g ((i+1) *m):=by
 have hm:=h.pos
 have e1:=h.at_ i (m - 1) Af Af
 have e2:=h.at_ (i+1) 0 hi Af
 have e3:=h.at_ (i+1) 1 hi Af
 have f1:=h.fall i Af
 have f2:=h.fall (i+1) hi
 have q:(i+1) *m - 1=i*m+(m - 1):=by rw[Nat.add_mul,Nat.one_mul];omega
 have hs:sd g ((i+1) *m)=F i - F (i+1):=by
  simp only[sd]
  rw[q,e1,e3,show(i+1) *m=(i+1) *m+0 by omega,e2,f1]
  have:((m - 1:Nat):Int) *F i=m*F i - F i:=by
   rw[Int.ofNat_sub hm,Int.sub_mul];simp
  rw[this]
  simp only[Int.ofNat_zero,Int.zero_mul,Int.ofNat_one,Int.one_mul]
  omega
 refine⟨hs,?_⟩
 rw[hs,Int.mul_sub]
 simp only[sd,Nat.add_sub_cancel]
 rw[f2,f1]
 omega
theorem OL.YP {C g F:Nat->Int}{m n:Nat}(h:OL C g F m n):∀(i j:Nat),i<n->j<m->Alike m (ms g (i*m+j)) (ms C i)
 |0,0,_,_=>by simp[Alike,ms]
 | i+1,0,hi,hj=>by
   have ih:=OL.YP h i (m - 1) Af Af
   have s:=h.jX hi
   have q:(i+1) *m+0=(i*m+(m - 1))+1:=by rw[Nat.add_mul,Nat.one_mul];omega
   have q':i*m+(m - 1)+1=(i+1) *m:=by omega
   rw[q]
   simp only[ms]
   rw[q',s.2]
   exact ih.both (by have:=h.pos;omega)
 | i,j+1,hi,hj=>by
   have ih:=OL.YP h i j hi Af
   rw[show i*m+(j+1)=i*m+j+1 by omega]
   simp only[ms]
   rw[h.jW hi hj]
   exact ih.zero
theorem OL.law {C g F:Nat->Int}{m n:Nat}(h:OL C g F m n) (hn:1<=n):changes g (n*m+1)=changes C (n+1)/\Q5 C (n+1)=m*Q5 g (n*m+1):=by
 have a:=h.YP (n - 1) (m - 1) Af (by have:=h.pos;omega)
 have hm:=h.pos
 have q:(n - 1) *m+(m - 1)=n*m+1 - 2:=by
  obtain⟨k,rfl⟩:=Nat.exists_eq_add_of_le hn
  rw[show 1+k - 1=k by omega,Nat.add_mul,Nat.one_mul];omega
 rw[q]at a
 unfold changes Q5
 rw[show n+1 - 2=n - 1 by omega]
 exact⟨a.2.1,a.2.2⟩
end AE.Fair

/- Walks of fair: what it measures. -/
namespace AE.Tryz
open Go AE Go.Proofs AE.Fair
set_option maxRecDepth 100000
set_option linter.unusedVariables false

theorem aC {g:FuncId}{first BL args xs:List Value}{lo:Nat}{h:H}{R:Value->H->Prop}(hc:AW Tryz.prog g lo h xs R) (e:first++args++BL=xs):∃v h',R v h'/\Eg Tryz.prog (.func (.func g) ⟨first⟩ ⟨BL⟩) lo h args v h':=by
 obtain⟨v,h',r,a⟩:=hc
 subst e
 exact⟨v,h',r,a.V0⟩
theorem Oq {fv:Value}{args:List Value}{lo lo':Nat}{h:H}{R:Value->H->Prop}(hc:∃v h',R v h'/\Eg Tryz.prog fv lo h args v h') (hl:lo'<=lo):∃v h',R v h'/\Eg Tryz.prog fv lo' h args v h':=
 let⟨v,h',r,a⟩:=hc;⟨v,h',r,a.mono hl⟩

structure eP where
 n:Nat
 f:Nat->Int
 b:Option Addr
 a:Addr
 c:Nat
structure eP.Ok (T:eP) (m:Nat) (h:H):Prop where
 e:0<T.n->T.b=some T.a
 i:Ints h T.a T.n T.f
 r:0<T.n->T.a.block<m
 l:T.n<=9223372036854775807
theorem eP.Ok.same {T:eP}{m m':Nat}{h h':H}(k:T.Ok m h) (s:Same m h h') (hm:m<=m'):T.Ok m' h':=
 ⟨k.e,k.i.same s k.r,fun h=>by have:=k.r h;omega,k.l⟩

theorem Be {G:Prop}(g:G:=by((apply Xn;rotate_left;(focus(apply eP.Ok.same;(focus assumption);(focus exact AO);(focus exact Nat.le_refl _)));(focus exact Ag)))):G:=g
theorem CZ {G G':Prop}(g:G') (t:G'->G:=by((apply Ak);(focus exact Ae);(focus exact AK);(focus((apply Xn;rotate_left;(focus(apply eP.Ok.same;(focus assumption);(focus exact AO);(focus exact Nat.le_refl _)));(focus exact Ag)))))):G:=t g

theorem Bd {G:Prop}(g:G:=by((apply fO))):G:=g
theorem CY {G G':Prop}(g:G') (t:G'->G:=by((apply Ak);(focus exact Ae);(focus exact AK);(focus((apply fO))))):G:=t g

theorem Bc {G:Prop}(g:G:=by((apply WS;rotate_left;(focus(apply eP.Ok.same;(focus assumption);(focus exact AO);(focus exact Nat.le_refl _)));(focus assumption);(focus omega);(focus exact Ag)))):G:=g
theorem CX {G G':Prop}(g:G') (t:G'->G:=by((apply Ak);(focus exact Ae);(focus exact AK);(focus((apply WS;rotate_left;(focus(apply eP.Ok.same;(focus assumption);(focus exact AO);(focus exact Nat.le_refl _)));(focus assumption);(focus omega);(focus exact Ag)))))):G:=t g

end AE.Tryz

/- The fairest line within spots, in plain words: what it costs to go on, and that no line costs less. -/
namespace AE.Fair
open Go AE

def IP (f:Nat->Int):Nat->Nat × Int
 |0=>(0,f 0)
 |k+1=>if f (k+1)<(IP f k).2 then(k+1,f (k+1))else IP f k
theorem Pj (f:Nat->Int):∀k,(IP f k).1<=k/\f (IP f k).1=(IP f k).2
 |0=>⟨Nat.le_refl _,rfl⟩
 | k+1=>by
   have:=Pj f k
   unfold IP
   split
   ·exact⟨Nat.le_refl _,rfl⟩
   ·exact⟨by omega,this.2⟩
def turns (s d:Int):Int:=if s≠0/\WC s d≠s then 1 else 0
def pay (t s d:Int):Int:=max d (-d)+t*turns s d
def mc (t:Int) (m:MS):Int:=m.Q5+t*m.ch
theorem b9 (t:Int) (m:MS) (d:Int):mc t (m.step d)=mc t m+pay t m.sign d:=by
 simp only[mc,MS.step,pay,turns]
 split
 ·rw[Int.mul_add];omega
 ·simp only[Int.mul_zero];omega
theorem R7 {f g:Nat->Int}:∀{k:Nat},(∀j,j<=k+1->f j=g j)->ms f k=ms g k
 |0,_=>rfl
 | k+1,h=>by
   have e:sd f (k+1)=sd g (k+1):=by
    simp only[sd,Nat.add_sub_cancel]
    rw[h k Af,h (k+1) Af,h (k+1+1) Af]
   simp only[ms,e,R7 (k:=k) fun j hj=>h j Af]

section
variable (t:Int) (lo:Nat->Int) (w:Nat->Nat)
def dif (i a b c:Nat):Int:=lo (i - 1)+a - 2* (lo i+b)+(lo (i+1)+c)
def dp:Nat->Nat->Nat->Nat->Int->Int
 |0,_,_,_,_=>0
 |k+1,i,a,b,s=>(IP (fun c=>pay t s (dif lo i a b c)+dp k (i+1) b c (WC s (dif lo i a b c))) (w (i+1) - 1)).2
def JD (k i a b:Nat) (s:Int):Nat:=(IP (fun c=>pay t s (dif lo i a b c)+dp t lo w k (i+1) b c (WC s (dif lo i a b c))) (w (i+1) - 1)).1
end
variable {t:Int}{lo:Nat->Int}{w:Nat->Nat}
structure Good (n:Nat) (t:Int) (lo:Nat->Int) (w:Nat->Nat):Prop where
 n1:1<=n
 n2:n<=24
 t1:0<=t
 t2:t<=1000000
 lo1:∀i,i<n-> -1000000<=lo i/\lo i+(w i:Int) - 1<=1000000
 w1:∀i,i<n->1<=w i/\w i<=5
structure Path (n:Nat) (t:Int) (lo:Nat->Int) (w:Nat->Nat) (T:Int) (x:Nat->Int) (i a b:Nat) (s:Int):Prop where
 i1:1<=i
 i2:i<n
 a1:a<w (i - 1)
 b1:b<w i
 xa:x (i - 1)=lo (i - 1)+a
 xb:x i=lo i+b
 inn:∀j,j<=i->lo j<=x j/\x j<=lo j+(w j:Int) - 1
 sg:(ms x (i - 1)).sign=s
 sum:mc t (ms x (i - 1))+dp t lo w (n - 1 - i) i a b s=T
theorem qm (l:Int) (A W:Nat) (h:A<W):l<=l+(A:Int)/\l+(A:Int)<=l+(W:Int) - 1:=by omega
theorem Path.next {n:Nat}{T:Int}{x y:Nat->Int}{i a b:Nat}{s:Int}(g:Good n t lo w) (p:Path n t lo w T x i a b s) (hi:i+1<n) (hy:∀j,j<=i->y j=x j) (hc:y (i+1)=lo (i+1)+(JD t lo w (n - 2 - i) i a b s:Nat)):
 Path n t lo w T y (i+1) b (JD t lo w (n - 2 - i) i a b s) (WC s (dif lo i a b (JD t lo w (n - 2 - i) i a b s)))/\JD t lo w (n - 2 - i) i a b s<w (i+1):=by
 have hw:=g.w1 (i+1) hi
 have i1:=p.i1
 obtain⟨e1,e2⟩:=Pj (fun c=>pay t s (dif lo i a b c)+dp t lo w (n - 2 - i) (i+1) b c (WC s (dif lo i a b c))) (w (i+1) - 1)
 have hlt:JD t lo w (n - 2 - i) i a b s<w (i+1):=by unfold JD;omega
 have ex:ms y (i - 1)=ms x (i - 1):=R7 fun j hj=>hy j Af
 have ed:sd y i=dif lo i a b (JD t lo w (n - 2 - i) i a b s):=by
  unfold sd dif
  rw[hy _ Af,hy _ (Nat.le_refl _),hc,p.xa,p.xb]
 have em:ms y i=(ms y (i - 1)).step (sd y i):=by
  obtain⟨j,rfl⟩:∃j,i=j+1:=⟨i - 1,by omega⟩
  rfl
 have hs:=p.sum
 rw[show n - 1 - i=(n - 2 - i)+1 by omega]at hs
 simp only[dp]at hs
 rw[<-e2]at hs
 change mc t (ms x (i - 1))+(pay t s (dif lo i a b (JD t lo w (n - 2 - i) i a b s))+dp t lo w (n - 2 - i) (i+1) b (JD t lo w (n - 2 - i) i a b s) (WC s (dif lo i a b (JD t lo w (n - 2 - i) i a b s))))=T at hs
 refine⟨⟨by omega,hi,by simpa using p.b1,hlt,?_,hc,fun j hj=>?_,?_,?_⟩,hlt⟩
 ·rw[Nat.add_sub_cancel,hy _ (Nat.le_refl _)];exact p.xb
 ·by_cases e:j=i+1
  ·subst e;rw[hc];omega
  ·rw[hy j Af];exact p.inn j Af
 ·rw[Nat.add_sub_cancel,em,ex,ed]
  show WC (ms x (i - 1)).sign _=_
  rw[p.sg]
 ·rw[Nat.add_sub_cancel,em,b9,ex,ed,p.sg,show n - 1 - (i+1)=n - 2 - i by omega]
  omega
end AE.Fair

/- Walks of fair: spots, and a drawer. -/
namespace AE.Tryz
open Go AE Go.Proofs AE.Fair
set_option maxRecDepth 100000
set_option linter.unusedVariables false

structure Rg where
 lo:Int
 hi:Int
def Rg.cells (x:Rg):List Value:=[.int .i64 x.lo,.int .i64 x.hi]
structure dG where
 n:Nat
 f:Nat->Rg
 b:Option Addr
 a:Addr
 c:Nat
structure dG.Ok (T:dG) (m:Nat) (h:H):Prop where
 e:0<T.n->T.b=some T.a
 i:Ro h T.a T.n 2 (fun i=>(T.f i).cells)
 r:0<T.n->T.a.block<m
 l:T.n<=9223372036854775807
theorem dG.Ok.same {T:dG}{m m':Nat}{h h':H}(k:T.Ok m h) (s:Same m h h') (hm:m<=m'):T.Ok m' h':=
 ⟨k.e,k.i.same s k.r,fun h=>by have:=k.r h;omega,k.l⟩

theorem Um {h:H}{T:dG}{m:Nat}(hm:m<=h.next) (hT:T.Ok m h) {pf:Value}{p:Nat->Bool}(hy:∀i h1,i<T.n->Quiet h.next h h1->∃v h2,v= .bool (p i)/\Eg Tryz.prog pf h1.next h1 [.agg ⟨(T.f i).cells⟩] v h2):
 AW Tryz.prog 362 h.next h [.slice T.b T.n T.c,pf] (fun v _=>∃z,v= .int .i64 z/\(0<=z↔∃i,i<T.n/\p i=true)):=by
 obtain⟨e1,i1,r1,l1⟩:=hT
 refine gV.call rfl (Nat.le_refl _) ?_
 unfold mR
 (refine Ai ?_)
 refine wp_loop (fun s:Nat=>[(0,.slice T.b T.n T.c),(1,pf),(7,.int .i64 T.n),(8,.int .i64 s)]) (fun s h1=>Quiet h.next h h1/\s<=T.n/\∀i,i<s->p i=false) (fun s=>T.n - s) 0 ⟨rfl,rfl,rfl,rfl,trivial⟩ ⟨?_,by omega,fun i hi=>by omega⟩ ?_
 ·(exact Fj)
 rintro s g h1 ⟨q,hs,hp⟩ K hK
 have hnx:=q.next
 (focus((try with_reducible apply wpC.to);(repeat'((conv=>whnf);first|refine Aw ?_|(apply Fork.mk<;>(intro _;try(exfalso;omega)))|((first|refine CX ?_|refine CY ?_|refine CZ ?_);first|((first|apply Ey|apply AG|apply AH)<;>intro _ _ _ _<;>try contradiction)|(apply AB;intro _ _ _))|fail));all_goals((conv=>whnf);try with_reducible apply At.mk)))
 ·apply Vi
  focus exact Oq (hy s _ Af Fj) Ag
  rintro _ h2 rfl q2
  have hnx2:=q2.next
  cases hb:p s with
  | true=>
    (refine Ai ?_)
    (refine AA ?_)
    exact⟨_,rfl,⟨fun _=>⟨s,by omega,hb⟩,fun _=>by omega⟩⟩
  | false=>
    (refine Ai ?_)
    refine hK (s+1) _ _ ⟨rfl,rfl,rfl,BQ rfl Af,trivial⟩ ⟨Fj,by omega,fun i hi=>?_⟩ Af
    by_cases e:i=s
    ·subst e;exact hb
    ·exact hp i Af
 ·(refine AA ?_)
  refine⟨_,rfl,⟨fun h=>by omega,fun⟨i,hi,hpi⟩=>?_⟩⟩
  rw[hp i Af]at hpi
  cases hpi
theorem aA {h:H}{T:dG}{m:Nat}(hm:m<=h.next) (hT:T.Ok m h) {pf:Value}{p:Nat->Bool}(hy:∀i h1,i<T.n->Quiet h.next h h1->∃v h2,v= .bool (p i)/\Eg Tryz.prog pf h1.next h1 [.agg ⟨(T.f i).cells⟩] v h2):
 AW Tryz.prog 267 h.next h [.slice T.b T.n T.c,pf] (fun v _=>v= .bool (decide (∃i,i<T.n/\p i=true))):=by
 refine g7.call rfl (Nat.le_refl _) ?_
 unfold mV
 (refine Ai ?_)
 apply Ak
 focus(exact Ae)
 focus(exact AK)
 focus exact Um (m:=m) Ag (hT.same AO (Nat.le_refl _)) fun i h1 hi q=>hy i h1 hi (Quiet.trans Fj (q.mono Ag))
 rintro _ h1 ⟨z,rfl,hz⟩ q hn
 (focus((try with_reducible apply wpC.to);(repeat'((conv=>whnf);first|refine Aw ?_|(apply Fork.mk<;>(intro _;try(exfalso;omega)))|((first|refine CX ?_|refine CY ?_|refine CZ ?_);first|((first|apply Ey|apply AG|apply AH)<;>intro _ _ _ _<;>try contradiction)|(apply AB;intro _ _ _))|fail));all_goals((conv=>whnf);try with_reducible apply At.mk)))
 all_goals(refine AA ?_)
 ·exact HP rfl (hz.1 Af)
 ·exact GQ rfl (fun h=>by have:=hz.2 h;omega)

def one (x:Int):Nat->Int:=fun _=>x
theorem Bg {G:Prop}(g:G:=by((apply Wk;(focus exact Ag);(focus exact Aa)))):G:=g
theorem Dz {G G':Prop}(g:G') (t:G'->G:=by((apply Ak);(focus exact Ae);(focus exact AK);(focus((apply Wk;(focus exact Ag);(focus exact Aa)))))):G:=t g
theorem Bf {G:Prop}(g:G:=by((apply Wj;(focus exact Ag);(focus exact Aa)))):G:=g
theorem Dy {G G':Prop}(g:G') (t:G'->G:=by((apply Ak);(focus exact Ae);(focus exact AK);(focus((apply Wj;(focus exact Ag);(focus exact Aa)))))):G:=t g

def nH (x:Rg):Prop:=¬((-1000000<=x.lo/\x.lo<=1000000)/\ -1000000<=x.hi/\x.hi<=1000000)\/¬(0<=x.hi - x.lo/\x.hi - x.lo<=4)
instance (x:Rg):Decidable (nH x):=by unfold nH;infer_instance
structure eD where
 r:dG
 t:Int
def eD.cells (S:eD):List Value:=[.slice S.r.b S.r.n S.r.c,.int .i64 S.t]
end AE.Tryz

/- Days of runs, walked: which are valid, which orders are. -/
namespace AE.Tryz
open Go AE Go.Proofs AE.Fair
set_option maxRecDepth 100000
set_option linter.unusedVariables false

structure RunT where
 mi:Int
 lo:Int
 hi:Int
 st:Int
 fr:Int
 un:Int
def RunT.cells (r:RunT):List Value:=[.int .i64 r.mi,.int .i64 r.lo,.int .i64 r.hi,.int .i64 r.st,.int .i64 r.fr,.int .i64 r.un]
structure Day where
 kl:Int
 kh:Int
 n:Nat
 f:Nat->RunT
 b:Option Addr
 a:Addr
 c:Nat
def Day.cells (D:Day):List Value:=[.int .i64 D.kl,.int .i64 D.kh,.slice D.b D.n D.c]
structure Day.Ok (D:Day) (m:Nat) (h:H):Prop where
 e:0<D.n->D.b=some D.a
 i:Ro h D.a D.n 6 (fun i=>(D.f i).cells)
 r:0<D.n->D.a.block<m
 l:D.n<=9223372036854775807
theorem Day.Ok.same {D:Day}{m m':Nat}{h h':H}(k:D.Ok m h) (s:Same m h h') (hm:m<=m'):D.Ok m' h':=
 ⟨k.e,k.i.same s k.r,fun h=>by have:=k.r h;omega,k.l⟩
theorem Day.Ok.pm {D:Day}{m:Nat}{h:H}(k:D.Ok m h) {i:Nat}(hi:i<D.n):h.Az (BB (BB D.a (i*6)) 0) 1=some [.int .i64 (D.f i).mi]:=Pe (k.i i hi) rfl
def E0 (r:RunT):Prop:=(1<=r.mi/\r.mi<=1000)/\(0<=r.lo/\r.lo<=r.hi/\r.hi<=1000000)/\(0<=r.st/\r.st<=1000000)/\(0<=r.fr/\r.fr<=1000)/\(0<=r.un/\r.un<=1000)/\r.fr<=r.un
structure Day.Valid (D:Day):Prop where
 n1:1<=D.n
 n2:D.n<=8
 k:0<=D.kl/\D.kl<=D.kh/\D.kh<=1000
 r:∀i,i<D.n->E0 (D.f i)
theorem jg {h:H}{n lo hi:Int}:AW Tryz.prog 81 h.next h [.int .i64 n,.int .i64 lo,.int .i64 hi] (fun v _=>v= .bool (decide (lo<=n/\n<=hi))):=by
 refine lN.call rfl (Nat.le_refl _) ?_
 unfold sG
 (focus((try with_reducible apply wpC.to);(repeat'((conv=>whnf);first|refine Aw ?_|(apply Fork.mk<;>(intro _;try(exfalso;omega)))|fail));all_goals((conv=>whnf);try with_reducible apply At.mk)))
 all_goals((refine AA ?_);first|exact HP rfl Af|exact GQ rfl Af)
theorem QE {G G':Prop}(g:G') (t:G'->G:=by((apply Ak);(focus exact Ae);(focus exact AK);(focus((apply jg))))):G:=t g
set_option maxHeartbeats 2000000 in
theorem L6 {h:H}{D:Day}{m:Nat}(hm:m<=h.next) (hD:D.Ok m h):AW Tryz.prog 36 h.next h [.agg ⟨D.cells⟩] (fun v _=>∃e:Int,v= .int .i64 e/\(e=0↔D.Valid)):=by
 have dl:=hD.l
 refine lX.call rfl (Nat.le_refl _) ?_
 unfold a36 Day.cells
 by_cases hn:D.n<1\/8<D.n
 ·(focus((try with_reducible apply wpC.to);(repeat'((conv=>whnf);first|refine Aw ?_|(apply Fork.mk<;>(intro _;try(exfalso;omega)))|((first|refine QE ?_|refine Dy ?_|refine Dz ?_|refine CX ?_|refine CY ?_|refine CZ ?_);first|((first|apply Ey|apply AG|apply AH)<;>intro _ _ _ _<;>try contradiction)|(apply AB;intro _ _ _))|fail));all_goals((conv=>whnf);try with_reducible apply At.mk)))
  all_goals(refine AA ?_)
  all_goals exact⟨_,rfl,fun h=>absurd h (by decide),fun V=>by have:=V.n1;have:=V.n2;omega⟩
 by_cases hk:D.kl<0\/D.kh<D.kl\/1000<D.kh
 ·(focus((try with_reducible apply wpC.to);(repeat'((conv=>whnf);first|refine Aw ?_|(apply Fork.mk<;>(intro _;try(exfalso;omega)))|((first|refine QE ?_|refine Dy ?_|refine Dz ?_|refine CX ?_|refine CY ?_|refine CZ ?_);first|((first|apply Ey|apply AG|apply AH)<;>intro _ _ _ _<;>try contradiction)|(apply AB;intro _ _ _))|fail));all_goals((conv=>whnf);try with_reducible apply At.mk)))
  all_goals(refine AA ?_)
  all_goals exact⟨_,rfl,fun h=>absurd h (by decide),fun V=>by have:=V.k;omega⟩
 (refine Ai ?_)
 refine wp_loop (fun s:Nat=>[(1,.pointer (some ⟨h.next,0,none⟩)),(3,.int .i64 s)]) (fun s h1=>Same h.next h h1/\h.next+1<=h1.next/\h1.get h.next=some (.cells [.int .i64 D.kl,.int .i64 D.kh,.slice D.b D.n D.c] 26)/\s<=D.n/\∀i,i<s->E0 (D.f i)) (fun s=>D.n - s) 0 ⟨rfl,rfl,trivial⟩ ⟨AO,Ag,Aa,by omega,fun i hi=>by omega⟩ ?_
 rintro s g h1 ⟨sm,n1,g1,hs,hall⟩ K hK
 by_cases hsn:s<D.n
 ·have hD1:=hD.same (m':=m) (sm.mono hm) (Nat.le_refl _)
  have i1:=hD1.i
  have e1:=hD1.e
  have r1:=hD1.r
  unfold RunT.cells at i1
  have bad:∀{e:Int},e≠0->¬E0 (D.f s)->(e=0↔D.Valid):=fun h1 h2=>⟨fun h=>absurd h h1,fun V=>absurd (V.r s hsn) h2⟩
  have good:E0 (D.f s)->∀i,i<s+1->E0 (D.f i):=fun h1 i hi=>by
   by_cases e:i=s
   ·subst e;exact h1
   ·exact hall i Af
  (focus((try with_reducible apply wpC.to);(repeat'((conv=>whnf);first|refine Aw ?_|(apply Fork.mk<;>(intro _;try(exfalso;omega)))|((first|refine QE ?_|refine Dy ?_|refine Dz ?_|refine CX ?_|refine CY ?_|refine CZ ?_);first|((first|apply Ey|apply AG|apply AH)<;>intro _ _ _ _<;>try contradiction)|(apply AB;intro _ _ _))|fail));all_goals((conv=>whnf);try with_reducible apply At.mk)))
  all_goals first
   |((refine AA ?_);refine⟨_,rfl,bad (by decide) (by unfold E0;omega)⟩;done)
   |skip
  exact hK (s+1) _ _ ⟨rfl,BQ rfl Af,trivial⟩ ⟨AO,Ag,Aa,by omega,fun i hi=>good (by unfold E0;omega) i hi⟩ Af
 ·obtain rfl:s=D.n:=by omega
  (refine Ai ?_)
  (refine AA ?_)
  exact⟨_,rfl,fun _=>⟨by omega,by omega,⟨by omega,by omega,by omega⟩,hall⟩,fun _=>rfl⟩
theorem cW {h:H}{D:Day}{m:Nat}(hm:m<=h.next) (hD:D.Ok m h):AW Tryz.prog 8 h.next h [.agg ⟨D.cells⟩] (fun v _=>∃b:Bool,v= .bool b/\(b=true↔D.Valid)):=by
 have dl:=hD.l
 refine qQ.call rfl (Nat.le_refl _) ?_
 unfold a8
 unfold Day.cells
 by_cases hn:12<D.n
 ·(refine Ai ?_)
  (refine AA ?_)
  exact⟨_,rfl,fun h=>absurd h (by decide),fun V=>by have:=V.n2;omega⟩
 (refine Ai ?_)
 apply Ak
 focus(exact Ae)
 focus(exact AK)
 focus exact L6 (D:=D) (m:=m) Ag (hD.same AO (Nat.le_refl _))
 rintro _ h2 ⟨e,rfl,he⟩ q2 n2
 by_cases V:D.Valid
 ·obtain rfl:e=0:=he.2 V
  (refine Ai ?_)
  (refine AA ?_)
  exact⟨_,rfl,fun _=>V,fun _=>rfl⟩
 ·have he0:e≠0:=fun h=>V (he.1 h)
  (refine Ai ?_)
  (refine AA ?_)
  refine⟨_,rfl,fun h=>?_,fun h=>absurd h V⟩
  simp at h


def TQ (lo hi:Int) (x:Rg):Prop:=lo<=x.lo/\x.lo<=x.hi/\x.hi<=hi
instance (lo hi:Int) (x:Rg):Decidable (TQ lo hi x):=by unfold TQ;infer_instance
theorem eV {h:H}{x:Rg}{lo hi:Int}{r1 r2:Nat}(b1:r1<h.next) (b2:r2<h.next) (g1:h.get r1=some (.cells [.int .i64 lo] 2)) (g2:h.get r2=some (.cells [.int .i64 hi] 2)):
 AW Tryz.prog 268 h.next h [.agg ⟨x.cells⟩,.pointer (some ⟨r1,0,none⟩),.pointer (some ⟨r2,0,none⟩)] (fun v _=>v= .bool (decide (¬TQ lo hi x))):=by
 refine gZ.call rfl (Nat.le_refl _) ?_
 unfold mU Rg.cells
 (focus((try with_reducible apply wpC.to);(repeat'((conv=>whnf);first|refine Aw ?_|(apply Fork.mk<;>(intro _;try(exfalso;omega)))|fail));all_goals((conv=>whnf);try with_reducible apply At.mk)))
 all_goals(refine AA ?_)
 all_goals first
  |exact HP rfl (by unfold TQ;omega)
  |exact GQ rfl (by unfold TQ;omega)
theorem OW {h:H}{T:dG}{m:Nat}{lo hi:Int}(hm:m<=h.next) (hT:T.Ok m h):AW Tryz.prog 183 h.next h [.int .i64 lo,.int .i64 hi,.slice T.b T.n T.c] (fun v _=>v= .bool (decide (∀i,i<T.n->TQ lo hi (T.f i)))):=by
 refine iE.call rfl (Nat.le_refl _) ?_
 unfold a183
 (refine Ai ?_)
 apply Vj
 focus(exact Ae)
 focus(exact AK)
 focus
  refine aA (T:=T) (m:=m) (p:=fun i=>decide (¬TQ lo hi (T.f i))) Ag (hT.same AO (Nat.le_refl _)) fun i X _ q=>?_
  have hn:=q.next
  exact aC (eV (x:=T.f i) (lo:=lo) (hi:=hi) (r1:=h.next) (r2:=h.next+1) Ag Ag ((q.same _ Ag).trans Aa) ((q.same _ Ag).trans Aa)) rfl
 ·intro hb h2 q2 n2
  have hb:=of_decide_eq_true hb
  (refine Ai ?_)
  (refine AA ?_)
  refine GQ rfl fun hall=>?_
  obtain⟨i,hi,hp⟩:=hb
  exact absurd (hall i hi) (of_decide_eq_true hp)
 ·intro hb h2 q2 n2
  have hb:=of_decide_eq_false hb
  (refine Ai ?_)
  (refine AA ?_)
  refine HP rfl fun i hi=>Classical.byContradiction fun hc=>hb ⟨i,hi,decide_eq_true hc⟩
theorem RO {f:Nat->List Value}{n sz:Nat}(hf:∀i,(f i).length=sz):cut (rowsOf f n) 0 (n*sz)=some (rowsOf f n):=by
 have h:=FY hf n
 unfold cut
 rw[if_pos Af,<-h]
 simp
theorem Vt {h:H}{l:List Rg}{r:Nat}(hr:r<h.next) (hg:h.get r=some (.cells (l.flatMap Rg.cells) 23)) (hl:l.length<1000):dG.Ok ⟨l.length,fun i=>l.getD i ⟨0,0⟩,some ⟨r,0,none⟩,⟨r,0,none⟩,l.length⟩ h.next h:=by
 refine⟨fun _=>rfl,?_,fun _=>hr,by dsimp only;omega⟩
 have e:l.flatMap Rg.cells=rowsOf (fun i=>(l.getD i ⟨0,0⟩).cells) l.length:=by
  have:=HO (fun x:Rg=>x.cells) l ⟨0,0⟩
  rw[<-this]
  rfl
 rw[e]at hg
 exact RN (fun _=>rfl) (B6 (off:=0) hg (RO fun _=>rfl))
theorem TN {h:H}{a b lo hi:Int}{r:Nat}(hr:r<h.next) (hg:h.get r=some (.cells [.int .i64 a,.int .i64 b] 23)):AW Tryz.prog 183 h.next h [.int .i64 lo,.int .i64 hi,.slice (some ⟨r,0,none⟩) 1 1] (fun v _=>v= .bool (decide (lo<=a/\a<=b/\b<=hi))):=by
 obtain⟨v,h',e,w⟩:=OW (lo:=lo) (hi:=hi) (Nat.le_refl _) (Vt (l:=[⟨a,b⟩]) hr hg (by simp))
 refine⟨v,h',e.trans (congrArg Value.bool (decide_eq_decide.2 ⟨fun k=>k 0 (by simp),fun k i hi=>?_⟩)),w⟩
 obtain rfl:i=0:=by simp at hi;omega
 exact k
theorem TM {h:H}{a b c d lo hi:Int}{r:Nat}(hr:r<h.next) (hg:h.get r=some (.cells [.int .i64 a,.int .i64 b,.int .i64 c,.int .i64 d] 23)):AW Tryz.prog 183 h.next h [.int .i64 lo,.int .i64 hi,.slice (some ⟨r,0,none⟩) 2 2] (fun v _=>v= .bool (decide ((lo<=a/\a<=b/\b<=hi)/\lo<=c/\c<=d/\d<=hi))):=by
 obtain⟨v,h',e,w⟩:=OW (lo:=lo) (hi:=hi) (Nat.le_refl _) (Vt (l:=[⟨a,b⟩,⟨c,d⟩]) hr hg (by simp))
 refine⟨v,h',e.trans (congrArg Value.bool (decide_eq_decide.2 ⟨fun k=>⟨k 0 (by simp),k 1 (by simp)⟩,fun k i hi=>?_⟩)),w⟩
 rcases(show i=0\/i=1 by simp at hi;omega)with rfl|rfl
 ·exact k.1
 ·exact k.2
theorem fM {h:H}{n:Int}:AW Tryz.prog 184 h.next h [.int .i64 n] (fun v _=>v= .agg ⟨[.int .i64 n,.int .i64 n]⟩):=by
 refine iD.call rfl (Nat.le_refl _) ?_
 unfold m8
 (refine Ai ?_)
 (refine AA ?_)
 rfl
theorem VA {G G':Prop}(g:G') (t:G'->G:=by((apply Ak);(focus exact Ae);(focus exact AK);(focus((apply TN;(focus exact Ag);(focus exact Aa)))))):G:=t g
theorem Vz {G G':Prop}(g:G') (t:G'->G:=by((apply Ak);(focus exact Ae);(focus exact AK);(focus((apply TM;(focus exact Ag);(focus exact Aa)))))):G:=t g
theorem Vy {G G':Prop}(g:G') (t:G'->G:=by((apply Ak);(focus exact Ae);(focus exact AK);(focus((apply fM))))):G:=t g
set_option maxHeartbeats 2000000 in
theorem UI {h:H}{D:Day}{m:Nat}(hm:m<=h.next) (hD:D.Ok m h) (V:D.Valid):AW Tryz.prog 100 h.next h [.agg ⟨D.cells⟩] (fun v _=>v= .int .i64 0):=by
 have dl:=hD.l
 obtain⟨v1,v2,vk,vr⟩:=V
 refine iU.call rfl (Nat.le_refl _) ?_
 unfold nA Day.cells
 (focus((try with_reducible apply wpC.to);(repeat'((conv=>whnf);first|refine Aw ?_|(apply Fork.mk<;>(intro _;try(exfalso;omega)))|((first|refine Vy ?_|refine Vz ?_|refine VA ?_|refine Dy ?_|refine Dz ?_|refine CX ?_|refine CY ?_|refine CZ ?_);first|((first|apply Ey|apply AG|apply AH)<;>intro _ _ _ _<;>try contradiction)|(apply AB;intro _ _ _))|fail));all_goals((conv=>whnf);try with_reducible apply At.mk)))
 all_goals try(exfalso;omega)
 rename_i X0 ku pX _
 have s2:Same h.next h X0:=fun x hx=>(ku.same x Ag).trans D6
 have k2:X0.get h.next=some (.cells [.int .i64 D.kl,.int .i64 D.kh,.slice D.b D.n D.c] 26):=(ku.same _ Ag).trans Aa
 have vV:h.next+1<=X0.next:=by(exact Ag)
 clear ku pX
 refine wp_loop (fun s:Nat=>[(1,.pointer (some ⟨h.next,0,none⟩)),(3,.bool true),(21,.slice D.b D.n D.c),(22,.int .i64 D.n),(23,.int .i64 s)]) (fun s X=>Same h.next h X/\h.next+1<=X.next/\s<=D.n) (fun s=>D.n - s) 0 ⟨rfl,rfl,rfl,rfl,rfl,trivial⟩ ⟨AO,Ag,by omega⟩ ?_
 rintro s g X ⟨sX,nX,hs⟩ K hK
 by_cases hsn:s<D.n
 ·have hD1:=hD.same (m':=m) (sX.mono hm) (Nat.le_refl _)
  have i1:=hD1.i
  have e1:=hD1.e
  have r1:=hD1.r
  unfold RunT.cells at i1
  have r:=vr s hsn
  unfold E0 at r
  obtain⟨ra,rb,rc,rd,re,rf⟩:=r
  (focus((try with_reducible apply wpC.to);(repeat'((conv=>whnf);first|refine Aw ?_|(apply Fork.mk<;>(intro _;try(exfalso;omega)))|((first|refine Vy ?_|refine Vz ?_|refine VA ?_|refine Dy ?_|refine Dz ?_|refine CX ?_|refine CY ?_|refine CZ ?_);first|((first|apply Ey|apply AG|apply AH)<;>intro _ _ _ _<;>try contradiction)|(apply AB;intro _ _ _))|fail));all_goals((conv=>whnf);try with_reducible apply At.mk)))
  all_goals first
   |(exfalso;omega)
   |exact hK (s+1) _ _ ⟨rfl,rfl,rfl,rfl,BQ rfl Af,trivial⟩ ⟨AO,Ag,by omega⟩ Af
 ·obtain rfl:s=D.n:=by omega
  (refine Ai ?_)
  (refine AA ?_)
  rfl


structure Ka where
 n:Nat
 f:Nat->Nat
 b:Option Addr
 a:Addr
 c:Nat
structure Ka.Ok (L:Ka) (m:Nat) (h:H):Prop where
 e:0<L.n->L.b=some L.a
 i:Ints h L.a L.n (fun i=>(L.f i:Int))
 r:0<L.n->L.a.block<m
 l:L.n<=9223372036854775807
theorem Ka.Ok.same {L:Ka}{m m':Nat}{h h':H}(k:L.Ok m h) (s:Same m h h') (hm:m<=m'):L.Ok m' h':=
 ⟨k.e,k.i.same s k.r,fun h=>by have:=k.r h;omega,k.l⟩
structure Ka.Of (L:Ka) (N:Nat):Prop where
 n:L.n<=N
 r:∀i,i<L.n->L.f i<N
 d:∀i j,i<j->j<L.n->L.f i≠L.f j
set_option maxHeartbeats 2000000 in
theorem WN {h:H}{D:Day}{L:Ka}{m m':Nat}(hm:m<=h.next) (hm':m'<=h.next) (hD:D.Ok m h) (hL:L.Ok m' h) (V:D.Valid) (hF:L.Of D.n):AW Tryz.prog 11 h.next h [.agg ⟨D.cells⟩,.slice L.b L.n L.c] (fun v _=>v= .int .i64 0):=by
 have dl:=hD.l
 have ll:=hL.l
 have v2:=V.n2
 have fn:=hF.n
 refine l8.call rfl (Nat.le_refl _) ?_
 unfold sK Day.cells
 (refine Ai ?_)
 apply Ak
 focus(exact Ae)
 focus(exact AK)
 focus exact L6 (D:=D) (m:=m) Ag (hD.same AO (Nat.le_refl _))
 rintro _ h1 ⟨e,rfl,he⟩ q1 n1
 obtain rfl:e=0:=he.2 V
 have s1:Same h.next h h1:=fun x hx=>(q1.same x Ag).trans D6
 have k1:h1.get h.next=some (.cells [.int .i64 D.kl,.int .i64 D.kh,.slice D.b D.n D.c] 26):=(q1.same _ Ag).trans Aa
 have n1':h.next+1<=h1.next:=by(exact Ag)
 clear q1 n1 he
 (refine Ai ?_)
 refine wp_loop (fun s:Nat=>[(1,.slice L.b L.n L.c),(2,.pointer (some ⟨h.next,0,none⟩)),(5,.int .i64 s)]) (fun s X=>Same h1.next h1 X/\h1.next<=X.next/\s<=L.n) (fun s=>L.n - s) 0 ⟨rfl,rfl,rfl,trivial⟩ ⟨AO,Ag,by omega⟩ ?_
 rintro s g X ⟨sX,nX,hs⟩ K hK
 have kX:=(sX h.next Af).trans k1
 have jI:=hL.same (m':=m') (fun x hx=>(sX x Af).trans (s1 x Af)) (Nat.le_refl _)
 by_cases hsn:s<L.n
 ·have i1:=jI.i
  have e1:=jI.e
  have r1:=jI.r
  have fr:=hF.r s hsn
  (refine Ai ?_)
  all_goals first
   |(exfalso;omega)
   |exact hK (s+1) _ _ ⟨rfl,rfl,BQ rfl Af,trivial⟩ ⟨AO,Ag,by omega⟩ Af
 obtain rfl:s=L.n:=by omega
 clear hK
 (refine Ai ?_)
 refine wp_loop (fun s:Nat=>[(1,.slice L.b L.n L.c),(6,.int .i64 s)]) (fun s Y=>Same X.next X Y/\X.next<=Y.next/\s<=L.n) (fun s=>L.n - s) 0 ⟨rfl,rfl,trivial⟩ ⟨AO,Ag,by omega⟩ ?_
 rintro i g Y ⟨sY,nY,hi⟩ K2 hK2
 by_cases hin:i<L.n
 ·(refine Ai ?_)
  refine wp_loop (fun s:Nat=>[(1,.slice L.b L.n L.c),(6,.int .i64 i),(7,.int .i64 s)]) (fun s Y=>Same X.next X Y/\X.next<=Y.next/\s<=i) (fun s=>i - s) 0 ⟨rfl,rfl,rfl,trivial⟩ ⟨AO,Ag,by omega⟩ ?_
  rintro j g Z ⟨sZ,nZ,hj⟩ K3 hK3
  have qK:=jI.same (m':=m') (fun x hx=>sZ x Af) (Nat.le_refl _)
  have i1:=qK.i
  have e1:=qK.e
  have r1:=qK.r
  by_cases hji:j<i
  ·have fd:=hF.d j i hji hin
   (refine Ai ?_)
   all_goals first
    |(exfalso;omega)
    |exact hK3 (j+1) _ _ ⟨rfl,rfl,BQ rfl Af,trivial⟩ ⟨AO,Ag,by omega⟩ Af
  ·obtain rfl:j=i:=by omega
   (refine Ai ?_)
   exact hK2 (j+1) _ _ ⟨rfl,BQ rfl Af,trivial⟩ ⟨AO,Ag,by omega⟩ Af
 ·obtain rfl:i=L.n:=by omega
  (refine Ai ?_)
  (refine AA ?_)
  rfl
end AE.Tryz

/- Days of runs, walked: how waves die down; the waits of a planner. -/
namespace AE.Tryz
open Go AE Go.Proofs AE.Fair
set_option maxRecDepth 100000
set_option linter.unusedVariables false


def EM (D:Day) (W:Nat->Int):List Value:=.int .i64 D.kl:: .int .i64 D.kh:: .slice D.b D.n D.c::DI W 64
theorem NS (f:Nat->Int):∀{n j:Nat},j<n->(DI f n)[j]? =some (.int .i64 (f j))
 | n+1,j,hj=>by
   have hl:=NR f n
   have e:DI f (n+1)=DI f n++[.int .i64 (f n)]:=by unfold DI;rfl
   rw[e]
   by_cases h:j<n
   ·rw[List.getElem?_append_left Af]
    exact NS f h
   ·obtain rfl:j=n:=by omega
    rw[List.getElem?_append_right Af,hl,Nat.sub_self]
    rfl
theorem O4 (D:Day) (W:Nat->Int):(EM D W).length=67:=by
 unfold EM
 simp only[List.length_cons,NR]
theorem WK {D:Day}{W:Nat->Int}{j o:Nat}(hj:j<64) (ho:o=3+j):(EM D W)[o]? =some (.int .i64 (W j)):=by
 subst ho
 unfold EM
 rw[show 3+j=j+1+1+1 by omega,List.getElem?_cons_succ,List.getElem?_cons_succ,List.getElem?_cons_succ]
 exact NS W hj
theorem P7 (x y z:Value) (l vs:List Value) (a:Nat):splice (x::y::z::l) (a+1+1+1) vs=x::y::z::splice l a vs:=by
 unfold splice
 rw[show a+1+1+1+vs.length=a+vs.length+1+1+1 by omega]
 simp only[List.take_succ_cons,List.drop_succ_cons,List.cons_append]
theorem O2 {D:Day}{W:Nat->Int}{j o:Nat}{v:Int}(hj:j<64) (ho:o=3+j):splice (EM D W) o [.int .i64 v]=EM D (Ox W j v):=by
 subst ho
 unfold EM
 rw[show 3+j=j+1+1+1 by omega,P7,Un W v hj rfl]
def dD (W:Nat->Int):Prop:=∀q,q<64-> -1<=W q/\W q<=1000000
theorem dD.upd {W:Nat->Int}(k:dD W) {j:Nat}{v:Int}(hv: -1<=v/\v<=1000000):dD (Ox W j v):=fun q hq=>by
 unfold Ox
 split
 ·exact hv
 ·exact k q hq


theorem cT {h:H}{e k:Int}:AW Tryz.prog 101 h.next h [.int .i64 e,.int .i64 k] (fun v h'=>∃r1 r2,v= .func (.func 185) ⟨[]⟩ ⟨[.pointer (some ⟨r1,0,none⟩),.pointer (some ⟨r2,0,none⟩)]⟩/\(h.next<=r1/\r1<h'.next)/\(h.next<=r2/\r2<h'.next)/\r1≠r2/\
 h'.get r1=some (.cells [.int .i64 e] 2)/\h'.get r2=some (.cells [.int .i64 k] 2)):=by
 refine iT.call rfl (Nat.le_refl _) ?_
 unfold nu
 (refine Ai ?_)
 (refine AA ?_)
 exact⟨_,_,rfl,⟨Ag,Ag⟩,⟨Ag,Ag⟩,by omega,Aa,Aa⟩
set_option maxHeartbeats 1000000 in
theorem cC {h:H}{lo r1 r2:Nat}{yv:Value}{e0 k:Int}(hlo:lo<=r1) (he:0<=e0/\e0<=1000000) (hk:0<=k/\k<=1000) (hne:r1≠r2) (b1:r1<h.next) (b2:r2<h.next) (g1:h.get r1=some (.cells [.int .i64 e0] 2)) (g2:h.get r2=some (.cells [.int .i64 k] 2))
 (Inv:Nat->H->Prop) (Fin:H->Prop) (hst:∀m h1 h2,Inv m h1->Quiet h1.next h1 h2->Inv m h2) (hput:∀m h1 row,Inv m h1->Inv m (h1.put r1 row)) (qH:∀h1 h2,Fin h1->Quiet h1.next h1 h2->Fin h2)
 (hy:∀(m:Nat) (e:Int) h1,(m:Int)<=1000000->Inv m h1->h.next<=h1.next->∃v h2,(((v= .bool true/\Inv (m+1) h2)\/(v= .bool false/\Fin h2))/\h2.get r1=h1.get r1/\h2.get r2=h1.get r2)/\Eg Tryz.prog yv lo h1 [.int .i64 m,.int .i64 e] v h2) (hz:Inv 0 h):
 AW Tryz.prog 185 lo h [yv,.pointer (some ⟨r1,0,none⟩),.pointer (some ⟨r2,0,none⟩)] (fun _ h'=>(∃m,Inv m h')\/Fin h'):=by
 refine iC.call rfl Af ?_
 unfold m7
 (refine Ai ?_)
 refine wp_loop (fun s:Nat × Nat=>[(0,yv),(1,.pointer (some ⟨r1,0,none⟩)),(2,.pointer (some ⟨r2,0,none⟩)),(4,.int .i64 s.1)]) (fun s h1=>Inv s.1 h1/\h.next<=h1.next/\h1.get r1=some (.cells [.int .i64 (s.2:Nat)] 2)/\h1.get r2=some (.cells [.int .i64 k] 2)/\(s.1:Int)+s.2<=e0) (fun s=>s.2) (0,e0.toNat) ⟨rfl,rfl,rfl,rfl,trivial⟩ ⟨hst _ _ _ hz Fj,Ag,by dsimp only;rw[show((e0.toNat:Nat):Int)=e0 by omega];(exact Aa),Aa,by dsimp only;omega⟩ ?_
 rintro⟨m,e⟩ g h1 ⟨iv,n1,x1,x2,hs⟩ K hK
 dsimp only at iv x1 x2 hs hK⊢
 (refine Ai ?_)
 apply Vi
 focus exact Oq (hy m e _ Af (hst _ _ _ iv Fj) Ag) Af
 rintro v h2 ⟨⟨rfl,rM⟩|⟨rfl,qU⟩,u5,u4⟩ q2
 rotate_left
 ·(refine Ai ?_)
  (refine AA ?_)
  exact .inr (qH _ _ qU Fj)
 have n2:=q2.next
 simp only[C0]at n2
 have y1:h2.get r1=some (.cells [.int .i64 (e:Nat)] 2):=u5.trans Aa
 have y2:h2.get r2=some (.cells [.int .i64 k] 2):=u4.trans Aa
 have mb:0<=(e:Int) *k/\(e:Int) *k<=1000000*1000:=⟨Int.mul_nonneg Af hk.1,Int.mul_le_mul Af hk.2 hk.1 Af⟩
 have vW:(e:Int) *k<=(e:Int) *1000:=Int.mul_le_mul_of_nonneg_left hk.2 Af
 (focus((try with_reducible apply wpC.to);(repeat'((conv=>whnf);first|refine Aw ?_|(apply Fork.mk<;>(intro _;try(exfalso;omega)))|((first|refine Dy ?_|refine Dz ?_|refine CX ?_|refine CY ?_|refine CZ ?_);first|((first|apply Ey|apply AG|apply AH)<;>intro _ _ _ _<;>try contradiction)|(apply AB;intro _ _ _))|fail));all_goals((conv=>whnf);try with_reducible apply At.mk)))
 ·(refine AA ?_)
  exact .inl ⟨m+1,hst _ _ _ rM Fj⟩
 ·refine hK (m+1,((e:Int) *k / 1000).toNat) _ _ ⟨rfl,rfl,rfl,BQ rfl (by dsimp only;omega),trivial⟩ ⟨?_,Ag,?_,Aa,by dsimp only;omega⟩ (by dsimp only;omega)
  ·dsimp only
   exact hst _ _ _ (hput _ (((h2.bump 5).bump 3).bump 2) (.cells [.int .i64 ((e:Int) *k / 1000)] 2) (hst _ _ _ rM Fj)) Fj
  ·dsimp only
   rw[show((((e:Int) *k / 1000).toNat:Nat):Int)=(e:Int) *k / 1000 by omega]
   (exact Aa)
end AE.Tryz

/- Days of runs, walked: which runs an order has; when a run begins. -/
namespace AE.Tryz
open Go AE Go.Proofs AE.Fair
set_option maxRecDepth 100000
set_option linter.unusedVariables false

theorem Zs {h:H}{L:Ka}{m x:Nat}(hm:m<=h.next) (hL:L.Ok m h):AW Tryz.prog 186 h.next h [.slice L.b L.n L.c,.int .i64 x] (fun v _=>∃z:Int,v= .int .i64 z/\(0<=z↔∃i,i<L.n/\L.f i=x)):=by
 obtain⟨e1,i1,r1,l1⟩:=hL
 refine iB.call rfl (Nat.le_refl _) ?_
 unfold m6
 (refine Ai ?_)
 refine wp_loop (fun s:Nat=>[(0,.slice L.b L.n L.c),(1,.int .i64 x),(7,.int .i64 L.n),(8,.int .i64 s)]) (fun s h1=>Same h.next h h1/\h.next<=h1.next/\s<=L.n/\∀i,i<s->L.f i≠x) (fun s=>L.n - s) 0 ⟨rfl,rfl,rfl,rfl,trivial⟩ ⟨AO,Ag,by omega,fun i hi=>by omega⟩ ?_
 rintro s g h1 ⟨sm,n1,hs,hp⟩ K hK
 by_cases hsn:s<L.n
 ·(focus((try with_reducible apply wpC.to);(repeat'((conv=>whnf);first|refine Aw ?_|(apply Fork.mk<;>(intro _;try(exfalso;omega)))|fail));all_goals((conv=>whnf);try with_reducible apply At.mk)))
  ·(refine AA ?_)
   exact⟨_,rfl,fun _=>⟨s,hsn,by omega⟩,fun _=>by omega⟩
  ·refine hK (s+1) _ _ ⟨rfl,rfl,rfl,BQ rfl Af,trivial⟩ ⟨AO,Ag,by omega,fun i hi=>?_⟩ Af
   by_cases e:i=s
   ·subst e;omega
   ·exact hp i Af
 ·obtain rfl:s=L.n:=by omega
  (refine Ai ?_)
  (refine AA ?_)
  exact⟨_,rfl,fun h=>absurd h (by decide),fun⟨i,hi,e⟩=>absurd e (hp i hi)⟩
theorem SZ {h:H}{L:Ka}{m x:Nat}(hm:m<=h.next) (hL:L.Ok m h):AW Tryz.prog 102 h.next h [.slice L.b L.n L.c,.int .i64 x] (fun v _=>v= .bool (decide (∃i,i<L.n/\L.f i=x))):=by
 refine iR.call rfl (Nat.le_refl _) ?_
 unfold nt
 (refine Ai ?_)
 apply Ak
 focus(exact Ae)
 focus(exact AK)
 focus exact Zs (L:=L) (m:=m) Ag (hL.same AO (Nat.le_refl _))
 rintro _ h1 ⟨z,rfl,hz⟩ q hn
 (focus((try with_reducible apply wpC.to);(repeat'((conv=>whnf);first|refine Aw ?_|(apply Fork.mk<;>(intro _;try(exfalso;omega)))|((first|refine Dy ?_|refine Dz ?_|refine CX ?_|refine CY ?_|refine CZ ?_);first|((first|apply Ey|apply AG|apply AH)<;>intro _ _ _ _<;>try contradiction)|(apply AB;intro _ _ _))|fail));all_goals((conv=>whnf);try with_reducible apply At.mk)))
 all_goals(refine AA ?_)
 ·exact HP rfl (hz.1 Af)
 ·exact GQ rfl (fun h=>by have:=hz.2 h;omega)
def IE (f:Nat->Nat) (n:Nat):List Value:=DI (fun i=>(f i:Int)) n
theorem cZ {h:H}{b N n:Nat}{f:Nat->Nat}{w:Option Addr}(G:Grown b N h 3 1 n (IE f n) w) (hn:n<1000000):AW Tryz.prog 104 h.next h [.slice w n 0] (fun v _=>∃v' c',v= .slice v' n c'/\∀h2:H,(∀r,b<=r->r<N->h2.get r=h.get r)->Full h2 1 n (IE f n) v' c'):=by
 refine iP.call rfl (Nat.le_refl _) ?_
 unfold nk
 (refine Ai ?_)
 apply fF (b:=b) (N:=N) (n:=n) (cs:=IE f n) (k1:=.i64) (k2:=.i64)
 case hsv=>exact rfl
 case G=>exact G.frame (Nat.le_refl _) fun r _ _=>Ac fun y hy=>by(exact Aa)
 case hh=>exact rfl
 case hx=>exact rfl
 case hsm=>omega
 intro v c hF
 (refine Ai ?_)
 (refine AA ?_)
 exact⟨v,c,rfl,fun h2 hh=>hF h2 fun r h1 h3=>(hh r h1 h3).trans D6⟩
theorem Lt {h:H}{b N n:Nat}{f:Nat->Nat}{v:Option Addr}(G:Grown b N h 3 1 n (IE f n) v) (hn:n<=1000):∃a,Ka.Ok ⟨n,f,v,a,0⟩ N h/\(0<n->b<=a.block/\a.block<N):=by
 unfold IE DI at G
 obtain⟨a,h1,h2,h3⟩:=Grown.els (f:=fun i=>[.int .i64 (f i:Int)]) G fun _=>rfl
 exact⟨a,⟨h1,fun i hi=>by have:=h2 i hi;rwa [Nat.mul_one]at this,fun h=>(h3 h).2,by dsimp only;omega⟩,h3⟩
theorem dv {h:H}{D:Day}{m pl nx:Nat}{W:Nat->Int}{EI over:Int}(hm:m<=h.next) (hD:D.Ok m h) (V:D.Valid) (hW:dD W) (hp:pl<h.next) (gp:h.get pl=some (.cells (EM D W) 198)) (hb:EI= -1\/∃b:Nat,EI=b/\b<D.n) (ho:0<=over/\over<=2000) (hx:nx<D.n):
 AW Tryz.prog 103 h.next h [.pointer (some ⟨pl,0,none⟩),.int .i64 EI,.int .i64 over,.int .i64 nx] (fun v _=>∃at_ e:Int,v= .tuple #[.int .i64 at_,.int .i64 e]/\(e=0->0<=at_/\at_<=1000)/\(EI= -1->e=0)):=by
 have v2:=V.n2
 have dl:=hD.l
 have i1:=hD.i
 have e1:=hD.e
 have r1:=hD.r
 have r:=V.r nx hx
 unfold E0 at r
 unfold RunT.cells at i1
 obtain⟨ra,rb,rc,rd,re,rf⟩:=r
 refine iQ.call rfl (Nat.le_refl _) ?_
 unfold nq
 have gs:h.Az (BB (BB ⟨pl,0,none⟩ 0) 2) 1=some [.slice D.b D.n D.c]:=FR (off:=0+0+2) gp rfl
 rcases hb with rfl|⟨b,rfl,hbn⟩
 ·(refine Ai ?_)
  (refine AA ?_)
  exact⟨_,_,rfl,fun _=>by omega,fun _=>rfl⟩
 ·have wb:=hW (b*8+nx) Af
  have gw:h.Az (BB (BB (BB ⟨pl,0,none⟩ 3) (b*8)) (nx*1)) 1=some [.int .i64 (W (b*8+nx))]:=FR (off:=0+3+b*8+nx*1) gp (WK Af Af)
  (focus((try with_reducible apply wpC.to);(repeat'((conv=>whnf);first|refine Aw ?_|(apply Fork.mk<;>(intro _;try(exfalso;omega)))|fail));all_goals((conv=>whnf);try with_reducible apply At.mk)))
  all_goals(refine AA ?_)
  all_goals exact⟨_,_,rfl,fun h=>by omega,fun h=>by omega⟩


structure JK (n:Nat) (f:Nat->Nat) (N:Nat):Prop where
 le:n<=N
 r:∀i,i<n->f i<N
 d:∀i j,i<j->j<n->f i≠f j
theorem TX:∀(N n:Nat) (f:Nat->Nat),(∀i,i<n->f i<N)->(∀i j,i<j->j<n->f i≠f j)->n<=N
 | 0,n,f,h,_=>by
   rcases Nat.eq_zero_or_pos n with h0|h0
   ·omega
   ·have:=h 0 h0;omega
 |N+1,0,f,_,_=>by omega
 | N + 1,n+1,f,h,d=>by
   by_cases hc:∃j,j<n+1/\f j=N
   ·obtain⟨j,hj,e⟩:=hc
    have key:=TX N n (fun i=>if i=j then f n else f i) (fun i hi=>?_) (fun i k hik hk=>?_)
    ·omega
    ·split
     ·rename_i hij
      have h1:=h n Af
      have h2:f n≠N:=by
       subst hij
       have:=d i n Af Af
       omega
      omega
     ·rename_i hij
      have h1:=h i Af
      have h2:f i≠N:=by
       rcases Nat.lt_or_gt_of_ne hij with hl|hl
       ·have:=d i j hl hj;omega
       ·have:=d j i hl Af;omega
      omega
    ·split
     ·rename_i hij
      split
      ·omega
      ·have:=d k n Af Af
       omega
     ·rename_i hij
      split
      ·have:=d i n Af Af
       omega
      ·exact d i k hik Af
   ·have key:=TX N (n+1) f (fun i hi=>by
     have h1:=h i hi
     have h2:f i≠N:=fun e=>hc ⟨i,hi,e⟩
     omega) d
    omega
theorem JK.nil {f:Nat->Nat}{N:Nat}:JK 0 f N:=⟨Nat.zero_le _,fun i h=>by omega,fun i j _ h=>by omega⟩
theorem JK.add {n:Nat}{f:Nat->Nat}{N x:Nat}(k:JK n f N) (hx:x<N) (hn:¬∃i,i<n/\f i=x):JK (n+1) (fun i=>if i<n then f i else x) N:=by
 have hr:∀i,i<n+1->(if i<n then f i else x)<N:=fun i hi=>by
  split
  ·rename_i h;exact k.r i h
  ·exact hx
 have hd:∀i j,i<j->j<n+1->(if i<n then f i else x)≠(if j<n then f j else x):=fun i j hij hj=>by
  rw[if_pos Af]
  split
  ·rename_i h;exact k.d i j hij h
  ·exact fun e=>hn ⟨i,by omega,e⟩
 exact⟨TX N (n+1) _ hr hd,hr,hd⟩
end AE.Tryz

/- Regions that draw their order, cut ahead of a call of a function that turns rows which were there. -/
namespace AE
open Go Go.RowKit
set_option linter.unusedVariables false

def Ao.isIn (nd:List Nat) (x:Ao):Bool:=match x.ins with
 |.call (.c (.func (.func g) _ _)) _=>nd.any (Nat.beq g)
 |_=>false
def Z9 (P:Program) (nd:List Nat) (n:Nat) (ops:Array Oper):Option Aj:=
 (Cf P n ops ops.toList).bind fun xs=>(xs.findIdx? (Ao.isIn nd)).bind fun c=>if VR ops c then(Cf P n (ops.extract 0 c) (ops.extract 0 c).toList).bind fun xs1=>
  if ZQ (ops.extract 0 c) xs1 (Td (ops.extract 0 c) xs1)then some (.seq (.Ck xs1 (Td (ops.extract 0 c) xs1)) (.reg (xs.drop c)))else none else none
def Fg (P:Program) (nd:List Nat) (n:Nat):Bool->Code->Option Aj
 |tp,.seq a b=>(Fg P nd n tp a).bind fun x=>(Fg P nd n tp b).map (.seq x)
 |tp,.cond c a b=>(AJ c).bind fun c'=>(Fg P nd n tp a).bind fun x=>(Fg P nd n tp b).map (.cond c' x)
 |tp,.block id c=>(Fg P nd n tp c).map (.block id)
 |tp,.loop c=>(Fg P nd n tp c).map .loop
 | tp,.region id ops draw=>match(if draw then Z9 P nd n ops else none)with
   |some A=>some A
   |none=>E2 P n tp (.region id ops draw)
 |tp,C=>E2 P n tp C
section
variable {P:Program}{n lo:Nat}
theorem Z8 {nd:List Nat}{id:Nat}{tp:Bool}{ops:Array Oper}{A:Aj}{Q:Exit->Ts->H->Prop}{ts:Ts}{h:H}(hm:P.follows .mixedOrders=true) (hc:Z9 P nd n ops=some A) (hl:lo<=h.next) (hw:DV P lo A Q ts h):WT (TC tp P (.region id ops true)) n lo (ng Q) ts h:=by
 simp only[Z9,Option.bind_eq_some_iff]at hc
 obtain⟨xs,hxs,c,hfc,hc⟩:=hc
 split at hc
 ·rename_i hcut
  simp only[Option.bind_eq_some_iff]at hc
  obtain⟨xs1,Xj,hc⟩:=hc
  split at hc
  ·rename_i hd
   simp only[Option.some.injEq]at hc
   subst hc
   have C:=N9 hcut
   have hcs:=C.inn
   refine(WT.cV hm C hxs (by simp;omega) (fun i hi=>?_) Xj hd hl (Q:=fun e ts h=>e= .normal/\Q .normal ts h) ?_).mono ?_
   ·rw[Array.getElem?_extract]
    rw[if_pos Af]
    simp
   ·simp only[DV,Da]at hw
    simpa using hw
   ·rintro e ts' h' ⟨rfl,q⟩
    exact⟨by simp,q⟩
  ·simp at hc
 ·simp at hc
theorem dS (hm:P.follows .mixedOrders=true) (C:Code) (tp:Bool) (A:Aj) (Q:Exit->Ts->H->Prop) (ts:Ts) (h:H) (hc:E2 P n tp C=some A) (hl:lo<=h.next) (hw:DV P lo A Q ts h):WT (TC tp P C) n lo (ng Q) ts h:=
 Tw hm C tp A Q ts h (Gf hc).1 (Gf hc).2 hl hw
theorem aW {nd:List Nat}(hm:P.follows .mixedOrders=true):∀(C:Code) (tp:Bool) (A:Aj) (Q:Exit->Ts->H->Prop) (ts:Ts) (h:H),Fg P nd n tp C=some A->lo<=h.next->DV P lo A Q ts h->WT (TC tp P C) n lo (ng Q) ts h:=by
 intro C
 induction C with
 | seq x y NQ ihy=>
   intro tp A Q ts h hc hl hw
   simp only[Fg,Option.bind_eq_some_iff,Option.map_eq_some_iff]at hc
   obtain⟨a,ha,b,hb,rfl⟩:=hc
   refine WT.seq ((NQ tp a _ ts h ha hl hw).strong.mono ?_)
   rintro e ts' h' ⟨⟨hg,q⟩,hq⟩
   cases e<;>first|exact⟨hg,q⟩|exact ihy tp b Q ts' h' hb (Nat.le_trans hl hq.next) q
 | cond c x y NQ ihy=>
   intro tp A Q ts h hc hl hw
   simp only[Fg,Option.bind_eq_some_iff,Option.map_eq_some_iff]at hc
   obtain⟨c',hc',a,ha,b,hb,rfl⟩:=hc
   obtain⟨t,ht,hw⟩:=hw
   refine WT.cond hc' ht ?_
   cases t
   ·exact ihy tp b Q ts h hb hl (by simpa using hw)
   ·exact NQ tp a Q ts h ha hl (by simpa using hw)
 | block id c ih=>
   intro tp A Q ts h hc hl hw
   simp only[Fg,Option.map_eq_some_iff]at hc
   obtain⟨a,ha,rfl⟩:=hc
   refine WT.block ((ih tp a _ ts h ha hl hw).mono ?_)
   rintro e ts' h' ⟨hg,q⟩
   cases e<;>first|exact⟨hg,q⟩|skip
   rename_i id'
   simp only[C9]at q⊢
   split
   ·rename_i hid;rw[if_pos hid]at q;exact⟨by simp,q⟩
   ·rename_i hid;rw[if_neg hid]at q;exact⟨by simp,q⟩
 | loop c ih=>
   intro tp A Q ts h hc hl hw
   simp only[Fg,Option.map_eq_some_iff]at hc
   obtain⟨a,ha,rfl⟩:=hc
   obtain⟨k,hw⟩:=hw
   refine WT.loop ?_
   induction k generalizing ts h with
   |zero=>exact hw.elim
   | succ k ihk=>
     refine WT.round ((ih tp a _ ts h ha hl hw).strong.mono ?_)
     rintro e ts' h' ⟨⟨hg,q⟩,hq⟩
     cases e<;>first|exact⟨hg,q⟩|exact ihk ts' h' (Nat.le_trans hl hq.next) q
 | region id ops draw=>
   intro tp A Q ts h hc hl hw
   simp only[Fg]at hc
   split at hc
   ·rename_i B hB
    split at hB
    ·rename_i hd
     subst hd
     simp only[Option.some.injEq]at hc
     subst hc
     exact Z8 hm hB hl hw
    ·simp at hB
   ·exact dS hm _ tp A Q ts h hc hl hw
 |_=>intro tp A Q ts h hc hl hw;exact dS hm _ tp A Q ts h hc hl hw

structure jB (P:Program) (nd:List Nat) (f:FuncId) (n nargs:Nat) (A:Aj) (rs:List ResultVar):Prop where
 mixed:P.follows .mixedOrders=true
 ex:∃fn c,P.funcs[f]? =some fn/\fn.body=some c/\fn.ntmps=n/\nargs<=n/\fn.results=⟨rs⟩/\Fg P nd n true c=some A/\(fn.name== "runtime.NumGoroutine")=false
theorem jB.call {nd:List Nat}{f:FuncId}{nargs:Nat}{A:Aj}{rs:List ResultVar}(F:jB P nd f n nargs A rs) {h:H}{args:List Value}{R:Value->H->Prop}(ha:args.length=nargs) (hlo:lo<=h.next)
 (hw:DV P lo A (fun e ts h'=>(e= .normal\/e= .ret)/\∃v,E1 P h' ts rs=some v/\R v h') (FG args) h):AW P f lo h args R:=by
 obtain⟨fn,c,hf,hb,hn,hna,hrs,hcc,hname⟩:=F.ex
 obtain⟨e,ts',h',⟨-,he,v,hv,hR⟩,hq,hg⟩:=aW F.mixed c true A _ _ _ hcc hlo hw
 refine⟨v,h',hR,hq,fun as_ w=>?_,fun I w k ia=>?_⟩
 ·have hne:¬fn.name= "runtime.NumGoroutine" :=by simpa using hname
  simp[callFunc,hf,hne,hb,program,Sem.run]
 ·refine callsIn_wide.1 (callsIn_of_wp_marks (F:=Fence.wide) (n:=0) hf hb trivial ?_)
  have ht:Bv I n (FG args) ((⟨Ah I args⟩:Array Value)++Array.replicate (fn.ntmps - (⟨Ah I args⟩:Array Value).size) undef):=by
   refine⟨by simp;omega,fun i=>?_⟩
   rw[Array.getD_eq_getD_getElem?,Array.getElem?_append]
   by_cases hi:i<args.length
   ·simp only[List.size_toArray,Bp,hi,if_true,List.getElem?_toArray,BO,FG,List.getElem?_eq_getElem hi,Option.map_some,Option.getD_some]
    exact⟨trivial,Eb ia (List.getElem?_eq_getElem hi)⟩
   ·simp only[List.size_toArray,Bp,hi,if_false,FG,List.getElem?_eq_none (Nat.le_of_not_lt hi),Option.getD_none]
    refine⟨?_,(BV I).2⟩
    rw[(BV I).1,Array.getElem?_replicate]
    split<;>rfl
  have:=hg none I w ⟨_,[]⟩ k ht (fun _=>rfl)
  refine Go.wpIn_mono this ?_
  rintro e' a' w' ⟨rfl,J,AV,t',ms,hd,hms⟩
  simp only[List.append_nil]at hd
  have hleave:LeavesInM Fence.wide 0 P fn a'.tmps (fun e w'=>∃J,BR I J lo h.next h' w w'/\In J v/\e= .returned (ren J v)) ms .returning w':=by
   refine EF (I:=I) (J:=J) (h':=h') (lo:=lo) (fun w2 k2 e2=>?_) ms w' AV.rel AV.ext hms
   obtain⟨iv,hrun⟩:=Fq (P:=P) hrs t' k2 hv
   exact⟨_,hrun,J,⟨AV.grows,AV.dom,AV.old,k2,e2⟩,iv,rfl⟩
  rcases he with rfl|rfl
  ·simp only[bodyPostM,hd];exact hleave
  ·simp only[bodyPostM,hd];exact hleave
end
end AE
