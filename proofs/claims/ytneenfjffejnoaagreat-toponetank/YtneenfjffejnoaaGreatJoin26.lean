/- Walks and plain laws: TAgreeRo, DragSpec, TopSa. -/
import Derived.Test.YtneenfjffejnoaaGreatAEBy2
import Derived.Test.YtneenfjffejnoaaGreatJoin38
import Derived.Test.YtneenfjffejnoaaGreatJoin30
import Derived.Test.YtneenfjffejnoaaGreatAEthree
set_option linter.unusedVariables false
set_option linter.unusedSimpArgs false
set_option linter.unusedSectionVars false

/- Walks of agree: the ring of one tank and one hull. -/
namespace AE.Tryz.Agr
set_option linter.unusedSimpArgs false
set_option linter.unusedVariables false
open Go AE AE.Ag AgreeS Go.Proofs
set_option maxRecDepth 100000

def Wh (b:Bool):List (Nat × Nat):=if b then[(1,2),(2,1),(0,1)]else[(1,2),(2,1)]
def iX (b:Bool):Nat->List MapEntry
 |0=>ents (Wh b) 0
 |1=>if b then[⟨.int .i64 2,.int .i64 1,1⟩,⟨.int .i64 0,.int .i64 1,2⟩]else[⟨.int .i64 2,.int .i64 1,1⟩]
 |_=>if b then[⟨.int .i64 0,.int .i64 1,2⟩]else[]
def Ja (i:Nat):Nat:=if i=1 then 2 else 1

set_option maxHeartbeats 2000000 in
theorem iK {h:H}{hr r0 mr:Nat}{x:St}{e:TypeId}(b:Bool) (hhr:hr<h.next) (hmr:mr<h.next) (hx:x.before=Wh b) (hl:x.last=1) (hg:h.get hr=some (.cells (CS r0 mr x) e)) (hgm:h.get mr=some (.map (ents x.before 0) x.before.length)):
 AW Tryz.prog 43 h.next h [.pointer (some ⟨hr,0,none⟩)] (fun v h'=>∃A:G9,v=A.val/\A.n=3/\(∀i,i<3->A.f i=(Ja i:Int))/\A.Ok h'.next h'):=by
 rw[hx]at hgm
 refine Afx.call rfl (Nat.le_refl _) ?_
 unfold a43
 (refine Aj ?_)
 refine Ei.mk (YS Aa) rfl ?_
 (refine Aj ?_)
 apply Ar
 focus(exact Ao)
 focus(exact AQ)
 focus exact uH (es:=ents (Wh b) 0) (c:=(Wh b).length) Aa
 rintro _ h1 ⟨r',rfl,hr1,hr2,hgc⟩ q1 hn1
 try simp only[AY]at hr1
 (refine Aj ?_)
 refine Ei.mk (oE Aa) (congrArg (Value.int .i64) hl) ?_
 (refine Aj ?_)
 refine wp_loop (fun s:Nat=>[(0,.pointer (some ⟨hr,0,none⟩)),(3,.map (some r')),(4,.int .i64 (Ja s))]) (fun s h2=>Same h.next h h2/\h1.next<=h2.next/\h2.get r'=some (.map (iX b s) (Wh b).length)/\s<=2) (fun s=>3 - s) 0
  ⟨rfl,rfl,rfl,trivial⟩ ⟨Aq,Ah,Aa,by omega⟩ ?_
 rintro s g h2 ⟨sm,hn2,g1,hs⟩ K hK
 have hs5:s=0\/s=1\/s=2:=by omega
 rcases hs5 with rfl|rfl|rfl
 ·(refine Aj ?_)
  refine DT.mk (Jb (r:=r') (v:=.tuple #[.int .i64 2,.bool true]) rfl rfl Aa (by cases b<;>kernel_rfl)) ?_
  (refine Aj ?_)
  refine DT.mk (Tp (r:=r') (i:=0) (es':=iX b 1) rfl rfl Al Aa (by cases b<;>kernel_rfl) (by cases b<;>rfl)) ?_
  (refine Aj ?_)
  exact hK 1 _ _ ⟨rfl,rfl,rfl,trivial⟩ ⟨Aq,Ah,Aa,by omega⟩ Al
 ·(refine Aj ?_)
  refine DT.mk (Jb (r:=r') (v:=.tuple #[.int .i64 1,.bool true]) rfl rfl Aa (by cases b<;>kernel_rfl)) ?_
  (refine Aj ?_)
  refine DT.mk (Tp (r:=r') (i:=0) (es':=iX b 2) rfl rfl Al Aa (by cases b<;>kernel_rfl) (by cases b<;>rfl)) ?_
  (refine Aj ?_)
  exact hK 2 _ _ ⟨rfl,rfl,rfl,trivial⟩ ⟨Aq,Ah,Aa,by omega⟩ Al
 (refine Aj ?_)
 refine DT.mk (Jb (r:=r') (v:=.tuple #[.int .i64 0,.bool false]) rfl rfl Aa (by cases b<;>kernel_rfl)) ?_
 (refine Aj ?_)
 refine Ei.mk (YS Aa) rfl ?_
 (refine Aj ?_)
 have smh:Same h.next h h2:=sm
 have gm2:h2.get mr=some (.map (iX b 0) (Wh b).length):=(sm mr hmr).trans hgm
 have gh2:h2.get hr=some (.cells (CS r0 mr x) e):=by(exact Aa)
 refine DT.mk (Jb (r:=mr) (es:=iX b 0) (c:=(Wh b).length) (v:=.int .i64 2) rfl rfl Aa (by cases b<;>kernel_rfl)) ?_
 (refine Aj ?_)
 refine wp_loop (fun s:Option Addr × Nat × Nat=>[(0,.pointer (some ⟨hr,0,none⟩)),(4,.int .i64 1),(7,.slice s.1 (s.2.2+1) s.2.1),(8,.int .i64 (Ja (s.2.2+1)))])
  (fun s h3=>Same h2.next h2 h3/\h2.next+12<=h3.next/\s.2.2<=1/\((s.2.2=0/\s.1=some ⟨h2.next+11,0,none⟩/\s.2.1=1/\h3.get (h2.next+11)=some (.cells [.int .i64 1] 3))\/(0<s.2.2/\s.2.1=0/\∃r,N5 r h3 3 1 (s.2.2+1) (A0 (fun i=>(Ja i:Int)) (s.2.2+1)) s.1/\h2.next<=r/\r<h3.next))) (fun s=>2 - s.2.2) (some ⟨h2.next+11,0,none⟩,1,0)
  ⟨rfl,rfl,rfl,rfl,trivial⟩ ⟨Aq,Ah,by simp only;omega,.inl ⟨rfl,rfl,rfl,Aa⟩⟩ ?_
 clear hK K g
 rintro⟨w,c,s⟩ g h3 ⟨qJ,Lj,hs3,hw⟩ K hK
 simp only at hs3 hw hK
 have hs4:s=0\/s=1:=by omega
 rcases hs4 with rfl|rfl
 ·rcases hw with⟨-,rfl,rfl,hw⟩|⟨h0, -⟩
  rotate_left
  ·omega
  dsimp only
  rw[show Ja (0+1)=2 from rfl]
  (refine Aj ?_)
  apply aK (b:=h3.next) (n:=1) (m:=1) (cs:=[.int .i64 1]) (nc:=[.int .i64 2])
  case hsv=>exact rfl
  case G=>exact⟨rfl,.inr ⟨_,rfl,by unfold far;omega,.inl ⟨rfl,rfl⟩,Di (off:=0) (v:=.int .i64 1) Aa rfl⟩⟩
  case C=>exact Cells.one Ez (by unfold far;omega) rfl rfl
  case hm=>omega
  case hb=>omega
  case hsm=>omega
  intro v' row G'
  rw[show([.int .i64 1]:List Value)++[.int .i64 2]=A0 (fun i=>(Ja i:Int)) 2 by unfold A0;rfl]at G'
  obtain⟨r5,G5,hr5,Am5⟩:=G'.t6 Al
  (refine Aj ?_)
  refine Ei.mk (YS Aa) rfl ?_
  (refine Aj ?_)
  refine DT.mk (Jb (r:=mr) (es:=iX b 0) (c:=(Wh b).length) (v:=.int .i64 1) rfl rfl Aa (by cases b<;>kernel_rfl)) ?_
  (refine Aj ?_)
  refine hK (v',0,1) _ _ ⟨rfl,rfl,rfl,rfl,trivial⟩ ⟨Aq,Ah,by simp only;omega,.inr ⟨by simp only;omega,rfl,?_⟩⟩ (by simp only;omega)
  exact⟨r5,G5.frame Ep,by omega,Ah⟩
 rcases hw with⟨h0, -⟩|⟨-,rfl,r5,G5,hr5,Am5⟩
 ·omega
 dsimp only
 rw[show Ja (1+1)=1 from rfl]
 (refine Aj ?_)
 apply Sm (r:=r5) (n:=2) (m:=1) (cs:=A0 (fun i=>(Ja i:Int)) 2) (nc:=[.int .i64 1])
 case hsv=>exact rfl
 case G=>exact G5.frame Ep
 case C=>exact Cells.one Ez (by unfold far;omega) rfl rfl
 case hm=>omega
 case hlo=>omega
 case hsm=>omega
 intro v' row G'
 rw[show A0 (fun i=>(Ja i:Int)) 2++[.int .i64 1]=A0 (fun i=>(Ja i:Int)) 3 from S3 (fun i=>(Ja i:Int)) 2]at G'
 (refine Aj ?_)
 apply GD
 focus exact iL (r:=r5) Al Ah Al (G'.frame Ep)
 rintro _ h4 ⟨G6, -⟩ q4
 have Ng:=q4.next
 (refine Aj ?_)
 (refine Au ?_)
 have G7:=G6.grown (b:=0) (N:=h4.next) Al Ah
 unfold A0 at G7
 obtain⟨a,ha,hE,hb⟩:=G7.els (fun _=>rfl)
 refine⟨⟨3,fun i=>(Ja (3 - 1 - i):Int),v',a,0⟩,rfl,rfl,fun i hi=>?_,⟨ha,fun i hi=>?_,fun h0=>?_,by simp⟩⟩
 ·have:i=0\/i=1\/i=2:=by omega
  rcases this with rfl|rfl|rfl<;>rfl
 ·have:=hE i hi
  rw[Nat.mul_one]at this
  exact this
 ·have:=hb h0
  show a.block<h4.next+_
  omega

theorem XV {h:H}{T:Tab}{m:Nat}{bl bh mx mn:Int}(hm:m<=h.next) (hT:T.Ok m h) (hv:T.Valid) (hw:BO T.toTable=QO bl bh mx mn) (hy:T.toTable.many=3) (hb:bl<=bh) (hc:mn<mx):
 AW Tryz.prog 12 h.next h [.agg ⟨T.cells⟩] (fun v h'=>∃A:G9,v= .tuple #[A.val,.int .i64 0]/\A.n=3/\dh T A Ja (fun i=>if i=0 then -mx else mn)/\A.Ok h'.next h'):=by
 have hok:=hv.ok
 have hf:=jD hb hc
 refine Agp.call rfl (Nat.le_refl _) ?_
 unfold a12
 (refine Aj ?_)
 apply Dw
 focus(exact Ao)
 focus(exact AQ)
 focus exact Iu (m:=m) Ah (hT.same Aq (Nat.le_refl _)) hv
 intro h1 q1 hn1
 (refine Aj ?_)
 apply Ar
 focus(exact Ao)
 focus(exact AQ)
 focus exact Sz (m:=m) Ah (hT.same Aq (Nat.le_refl _)) hv
 rintro _ h3 ⟨r,e,rfl,hr1,hr2,hr3⟩ q3 Lj
 try simp only[Bv,AY]at hr1 hr2
 (refine Aj ?_)
 apply Ar
 focus(exact Ao)
 focus(exact AQ)
 focus exact MH (B:=BO T.toTable) (e:=e) hv Ah (Io hok) Aa
 rintro _ h4 ⟨hr,rfl,mr,e',l1,l2,l3,l4,l5,l6,l7⟩ q4 Ng
 try simp only[Bv,AY]at l1 l3
 rw[hw,hy]at l6 l7⊢
 rw[decide_eq_false (by rw[hf.2];decide)]
 obtain⟨b,hbe⟩:∃b,(AgreeS.found (QO bl bh mx mn) 3 0).before=Wh b:=by
  rcases hf.1 with h|h
  ·exact⟨false,h⟩
  ·exact⟨true,h⟩
 (refine Aj ?_)
 apply Ar
 focus(exact Ao)
 focus(exact AQ)
 focus exact iK (mr:=mr) (r0:=r) (e:=e') b Ah Ah hbe hf.2 Aa Aa
 rintro _ h5 ⟨A,rfl,hA1,hA2,hA3⟩ q5 N4
 (refine Aj ?_)
 (refine Au ?_)
 refine⟨A,rfl,hA1,⟨by omega,by omega,fun i hi=>hA2 i Al,fun i hi=>?_,fun i hi=>?_,by rw[hA1];rfl⟩,hA3.frame (b:=0) (fun _=>Nat.zero_le _) Ah fun j hj1 hj2=>rfl⟩
 ·rw[hy]
  unfold Ja
  split<;>omega
 ·rw[hw]
  have:i=0\/i=1:=by omega
  rcases this with rfl|rfl<;>rfl
end AE.Tryz.Agr

/- What drag computes, in plain words: friction lines. -/
namespace AE.Drag
open Go AE

structure Line where
 n:Nat
 re:Nat->Int
 m:Nat
 cf:Nat->Int
 b1:Option Addr
 a1:Addr
 c1:Nat
 b2:Option Addr
 a2:Addr
 c2:Nat
def Line.cells (L:Line):List Value:=[.slice L.b1 L.n L.c1,.slice L.b2 L.m L.c2]
structure Line.Ok (L:Line) (m:Nat) (h:H):Prop where
 e1:0<L.n->L.b1=some L.a1
 i1:Ints h L.a1 L.n L.re
 r1:0<L.n->L.a1.block<m
 e2:0<L.m->L.b2=some L.a2
 i2:Ints h L.a2 L.m L.cf
 r2:0<L.m->L.a2.block<m
 l1:L.n<=9223372036854775807
 l2:L.m<=9223372036854775807
theorem Line.Ok.same {L:Line}{m m':Nat}{h h':H}(k:L.Ok m h) (s:Same m h h') (hm:m<=m'):L.Ok m' h':=
 ⟨k.e1,k.i1.same s k.r1,fun h=>by have:=k.r1 h;omega,k.e2,k.i2.same s k.r2,fun h=>by have:=k.r2 h;omega,k.l1,k.l2⟩

def FN (L:Line) (i:Nat):Prop:=1<=L.re i/\L.re i<=1000000000/\0<=L.cf i/\L.cf i<=100000/\(0<i->L.re (i - 1)<L.re i/\L.cf i<=L.cf (i - 1))
structure Valid (L:Line):Prop where
 lo:2<=L.n
 hi:L.n<=12
 eq:L.m=L.n
 pt:∀i,i<L.n->FN L i

def fr (L:Line) (x:Int) (i:Nat):Int:=if L.re i=x then L.cf i else L.cf (i - 1) - (L.cf (i - 1) - L.cf i) * (x - L.re (i - 1)) / (L.re i - L.re (i - 1))
def inside (L:Line) (x:Int):Prop:=L.re 0<=x/\x<=L.re (L.n - 1)
instance (L:Line) (x:Int):Decidable (inside L x):=by unfold inside;infer_instance


end AE.Drag

/- What fair measures, in plain words: changes of sign of second differences, and the sum of their amounts; and a line with numbers set between its points. -/
namespace AE.Fair
open Go AE

structure MS where
 sign:Int
 ch:Int
 Ju:Int
def Lh (s d:Int):Int:=if 0<d then 1 else if d<0 then 2 else s
def MS.step (s:MS) (d:Int):MS:=⟨Lh s.sign d,if s.sign≠0/\Lh s.sign d≠s.sign then s.ch+1 else s.ch,s.Ju+max d (-d)⟩
def sd (f:Nat->Int) (i:Nat):Int:=f (i - 1) - 2*f i+f (i+1)
def ms (f:Nat->Int):Nat->MS
 |0=>⟨0,0,0⟩
 |k+1=>(ms f k).step (sd f (k+1))
def changes (f:Nat->Int) (n:Nat):Int:=(ms f (n - 2)).ch
def Ju (f:Nat->Int) (n:Nat):Int:=(ms f (n - 2)).Ju
def Alike (m:Int) (a b:MS):Prop:=a.sign=b.sign/\a.ch=b.ch/\b.Ju=m*a.Ju
theorem Alike.zero {m:Int}{a b:MS}(h:Alike m a b):Alike m (a.step 0) b:=by
 obtain⟨h1,h2,h3⟩:=h
 refine⟨?_,?_,?_⟩<;>simp[MS.step,Lh,h1,h2,h3]
theorem Alike.both {m d:Int}{a b:MS}(hm:1<=m) (h:Alike m a b):Alike m (a.step d) (b.step (m*d)):=by
 obtain⟨h1,h2,h3⟩:=h
 have p1:0<m*d↔0<d:=⟨fun h=>Int.lt_of_not_ge fun hd=>by have:=Int.mul_nonneg (a:=m) (b:= -d) Al Al;rw[Int.mul_neg]at this;omega,fun h=>Int.mul_pos Al h⟩
 have p2:m*d<0↔d<0:=⟨fun h=>Int.lt_of_not_ge fun hd=>by have:=Int.mul_nonneg (a:=m) (b:=d) Al Al;omega,fun h=>by have:=Int.mul_pos (a:=m) (b:= -d) Al Al;rw[Int.mul_neg]at this;omega⟩
 have es:Lh b.sign (m*d)=Lh a.sign d:=by simp only[Lh,p1,p2,h1]
 have hb:max (m*d) (-(m*d))=m*max d (-d):=by
  rcases Int.le_total 0 d with hd|hd
  ·have:=Int.mul_nonneg (a:=m) (b:=d) Al hd
   rw[Int.max_eq_left Al,Int.max_eq_left Al]
  ·have:=Int.mul_nonneg (a:=m) (b:= -d) Al Al
   rw[Int.mul_neg]at this
   rw[Int.max_eq_right Al,Int.max_eq_right Al,Int.mul_neg]
 refine⟨?_,?_,?_⟩
 ·simp only[MS.step,es]
 ·simp only[MS.step,es,h1,h2]
 ·simp only[MS.step,hb,h3,Int.mul_add]

structure Jp (C g:Nat->Int) (F:Nat->Int) (m n:Nat):Prop where
 pos:1<=m
 fall:∀i,i<n->C (i+1)=C i - m*F i
 at_:∀i j,i<n->j<=m->g (i*m+j)=C i - j*F i
theorem Jp.Ada {C g F:Nat->Int}{m n:Nat}(h:Jp C g F m n) {i j:Nat}(hi:i<n) (hj:j+1<m):sd g (i*m+j+1)=0:=by
 have e1:=h.at_ i j hi Al
 have e2:=h.at_ i (j+1) hi Al
 have e3:=h.at_ i (j+2) hi Al
 simp only[sd,Nat.add_sub_cancel]
 rw[show i*m+j+1=i*m+(j+1) by omega,show i*m+(j+1)+1=i*m+(j+2) by omega,e1,e2,e3]
 have q1:((j+1:Nat):Int) *F i=j*F i+F i:=by push_cast;rw[Int.add_mul,Int.one_mul]
 have q2:((j+2:Nat):Int) *F i=j*F i+2*F i:=by push_cast;simp only[Int.add_mul];omega
 rw[q1,q2]
 omega
theorem Jp.Adb {C g F:Nat->Int}{m n:Nat}(h:Jp C g F m n) {i:Nat}(hi:i+1<n):sd g ((i+1) *m)=F i - F (i+1)/\sd C (i+1)=m*sd g ((i+1) *m):=by
 have hm:=h.pos
 have e1:=h.at_ i (m - 1) Al Al
 have e2:=h.at_ (i+1) 0 hi Al
 have e3:=h.at_ (i+1) 1 hi Al
 have f1:=h.fall i Al
 have f2:=h.fall (i+1) hi
 have q:(i+1) *m - 1=i*m+(m - 1):=by rw[Nat.add_mul,Nat.one_mul];omega
 have hs:sd g ((i+1) *m)=F i - F (i+1):=by
  simp only[sd]
  rw[q,e1,e3,show(i+1) *m=(i+1) *m+0 by omega,e2,f1]
  have:((m - 1:Nat):Int) *F i=m*F i - F i:=by
   rw[Int.ofNat_sub hm,Int.sub_mul];simp
  rw[this]
  simp only[Int.ofNat_zero,Int.zero_mul,Int.ofNat_one,Int.one_mul]
  omega
 refine⟨hs,?_⟩
 rw[hs,Int.mul_sub]
 simp only[sd,Nat.add_sub_cancel]
 rw[f2,f1]
 omega
theorem Jp.mL {C g F:Nat->Int}{m n:Nat}(h:Jp C g F m n):∀(i j:Nat),i<n->j<m->Alike m (ms g (i*m+j)) (ms C i)
 |0,0,_,_=>by simp[Alike,ms]
 | i+1,0,hi,hj=>by
   have ih:=Jp.mL h i (m - 1) Al Al
   have s:=h.Adb hi
   have q:(i+1) *m+0=(i*m+(m - 1))+1:=by rw[Nat.add_mul,Nat.one_mul];omega
   have q':i*m+(m - 1)+1=(i+1) *m:=by omega
   rw[q]
   simp only[ms]
   rw[q',s.2]
   exact ih.both (by have:=h.pos;omega)
 | i,j+1,hi,hj=>by
   have ih:=Jp.mL h i j hi Al
   rw[show i*m+(j+1)=i*m+j+1 by omega]
   simp only[ms]
   rw[h.Ada hi hj]
   exact ih.zero
theorem Jp.law {C g F:Nat->Int}{m n:Nat}(h:Jp C g F m n) (hn:1<=n):changes g (n*m+1)=changes C (n+1)/\Ju C (n+1)=m*Ju g (n*m+1):=by
 have a:=h.mL (n - 1) (m - 1) Al (by have:=h.pos;omega)
 have hm:=h.pos
 have q:(n - 1) *m+(m - 1)=n*m+1 - 2:=by
  obtain⟨k,rfl⟩:=Nat.exists_eq_add_of_le hn
  rw[show 1+k - 1=k by omega,Nat.add_mul,Nat.one_mul];omega
 rw[q]at a
 unfold changes Ju
 rw[show n+1 - 2=n - 1 by omega]
 exact⟨a.2.1,a.2.2⟩
end AE.Fair
