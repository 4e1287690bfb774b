/- Walks and plain laws: DragSpec6, DragSpec7. -/
import Derived.Test.YtneenfjffejnoaaGreatJoin56
import Derived.Test.YtneenfjffejnoaaGreatJoin76
set_option linter.unusedVariables false
set_option linter.unusedSimpArgs false
set_option linter.unusedSectionVars false

/- The friction falls. -/
namespace AE.Drag
open Go AE

theorem ua {L:Line}(v:Valid L) {x:Int}(h:inside L x):L.cf (idx L x)<=Jh L x:=by
 unfold Jh fr
 split
 ·omega
 ·rename_i hne
  have m:=MG v h hne
  have:=m.q1;omega
theorem t9 {L:Line}(v:Valid L) {x:Int}(h:inside L x) (hne:L.re (idx L x)≠x):Jh L x<=L.cf (idx L x - 1):=by
 unfold Jh fr
 rw[if_neg hne]
 have m:=MG v h hne
 have:=m.q0;omega
theorem nT {L:Line}(v:Valid L) {x y:Int}(hx:inside L x) (hy:inside L y) (hxy:x<=y):idx L x<=idx L y:=by
 obtain⟨h1,h2⟩:=PK v hy
 obtain⟨s1,s2⟩:=S0 v x
 rcases Nat.lt_or_ge (idx L y) (idx L x)with h|h
 ·have:=s1 _ h;omega
 ·exact h
theorem S7 {L:Line}(v:Valid L) {x y:Int}(hx:inside L x) (hy:inside L y) (hxy:x<=y):Jh L y<=Jh L x:=by
 by_cases e:x=y
 ·subst e;omega
 have hk:=nT v hx hy hxy
 have hyi:=PK v hy
 have hge:=ua v hx
 by_cases hne:L.re (idx L y)=y
 ·have e2:Jh L y=L.cf (idx L y):=by unfold Jh fr;rw[if_pos hne]
  have:=v.pL hk hyi.1
  omega
 have hle:=t9 v hy hne
 by_cases hk2:idx L x<idx L y
 ·have:=v.pL (i:=idx L x) (j:=idx L y - 1) Al Al
  omega
 have hk3:idx L x=idx L y:=by omega
 have hxi:=PK v hx
 have hnx:L.re (idx L x)≠x:=by rw[hk3]at hxi⊢;omega
 have mx:=MG v hx hnx
 have my:=MG v hy hne
 unfold Jh fr
 rw[if_neg hne,if_neg hnx,hk3]
 rw[hk3]at mx
 have a:=my.c1;have b:=mx.lo;have c:=mx.hi
 have:(L.cf (idx L y - 1) - L.cf (idx L y)) * (x - L.re (idx L y - 1)) / (L.re (idx L y) - L.re (idx L y - 1))<=(L.cf (idx L y - 1) - L.cf (idx L y)) * (y - L.re (idx L y - 1)) / (L.re (idx L y) - L.re (idx L y - 1)):=
  Int.ediv_le_ediv Al (Int.mul_le_mul_of_nonneg_left Al Al)
 omega
end AE.Drag

/- The stage's theorem, in plain words: the coefficient lies between its ends. -/
namespace AE.Drag
open Go AE

theorem Ti {P:Int->Prop}(b:Int) (hb:∀w,P w->b<=w) (hx:∃v,P v):∃v,TJ P v:=by
 have key:∀n:Nat,∀v,P v->(v - b).toNat<=n->∃v,TJ P v:=by
  intro n
  induction n with
  | zero=>
    intro v hv hn
    refine⟨v,hv,fun w hw=>?_⟩
    have:=hb v hv;have:=hb w hw;omega
  | succ n ih=>
    intro v hv hn
    by_cases h:∃w,P w/\w<v
    ·obtain⟨w,hw,hlt⟩:=h
     have:=hb w hw
     exact ih w hw Al
    ·exact⟨v,hv,fun w hw=>by
      rcases Int.lt_or_le w v with hlt|hle
      ·exact absurd ⟨w,hw,hlt⟩ h
      ·exact hle⟩
 obtain⟨v,hv⟩:=hx
 exact key _ v hv (Nat.le_refl _)
theorem cB {P:Int->Prop}(b:Int) (hb:∀w,P w->w<=b) (hx:∃v,P v):∃v,Vx P v:=by
 obtain⟨v,⟨hv1,hv2⟩⟩:=Ti (P:=fun w=>P (-w)) (-b) (fun w hw=>by have:=hb _ hw;omega) (by
  obtain⟨v,hv⟩:=hx
  exact⟨-v,by simpa using hv⟩)
 exact⟨-v,hv1,fun w hw=>by have:=hv2 (-w) (by simpa using hw);omega⟩

theorem T8 {t:T}(k:t.Ok) {f g:Int}(h:f<=g):measured t f<=measured t g:=by
 have:=k.prod.q3
 have:20000000000*f / (t.ZJ*t.speed*t.speed)<=20000000000*g / (t.ZJ*t.speed*t.speed):=Int.ediv_le_ediv Al Al
 unfold measured
 omega
theorem Zg {t:T}(k:t.Ok) {x y:X}{f g f' g':Int}(hx:x.Bd) (hy:y.Bd) (h1:x.force<=y.force) (h2:y.block<=x.block) (h3:x.form=y.form) (h4:x.rough<=y.rough) (h5:f'<=f) (h6:g<=g') (hf:0<=f') (hg:0<=g):
 NM t x f g<=NM t y f' g':=by
 have m:=T8 k h1
 have m0:=(LP k hx.f1).1
 have m1:=(LP k hy.f1).1
 have b1:=hx.b2;have b2:=hy.b2;have b3:=hx.m1;have b4:=hy.m1
 have a1:measured t x.force* (1000 - x.block)<=measured t y.force* (1000 - y.block):=Int.mul_le_mul m Al Al m1
 have a2:(1000+y.form) *f'<=(1000+x.form) *f:=by rw[h3];exact Int.mul_le_mul_of_nonneg_left h5 Al
 have a3:(1000+x.form) *g<=(1000+y.form) *g':=by rw[h3];exact Int.mul_le_mul_of_nonneg_left h6 Al
 have e1:measured t x.force* (1000 - x.block) / 1000<=measured t y.force* (1000 - y.block) / 1000:=Int.ediv_le_ediv Al a1
 have e2:(1000+y.form) *f' / 1000<=(1000+x.form) *f / 1000:=Int.ediv_le_ediv Al a2
 have e3:(1000+x.form) *g / 1000<=(1000+y.form) *g' / 1000:=Int.ediv_le_ediv Al a3
 unfold NM
 omega

structure Among (t:T) (x:X):Prop where
 f1:t.fl<=x.force
 f2:x.force<=t.fh
 t1:t.tl<=x.tank
 t2:x.tank<=t.th
 e1:t.sl<=x.XO
 e2:x.XO<=t.sh
 m1:0<=x.form
 m2:x.form<=1000
 b1:t.bl<=x.block
 b2:x.block<=t.bh
 r1:t.rl<=x.rough
 r2:x.rough<=t.rh
theorem Among.bd {t:T}{x:X}(k:t.Ok) (h:Among t x):x.Bd:=by
 obtain⟨s1,s2,l1,l2,w1,w2,a1,a2,f1,f2,f3,t1,t2,t3,e1,e2,e3,m1,m2,m3,b1,b2,b3,r1,r2,r3⟩:=k
 obtain⟨x1,x2,x3,x4,x5,x6,x7,x8,x9,x10,x11,x12⟩:=h
 constructor<;>omega
theorem MR {t:T}(k:t.Ok) {m:Int}(h1:0<=m) (h2:m<=1000):Among t (Ey t m):=by
 obtain⟨s1,s2,l1,l2,w1,w2,a1,a2,f1,f2,f3,t1,t2,t3,e1,e2,e3,m1,m2,m3,b1,b2,b3,r1,r2,r3⟩:=k
 constructor<;>simp only[Ey]<;>omega
theorem NY {t:T}(k:t.Ok) {m:Int}(h1:0<=m) (h2:m<=1000):Among t (CZ t m):=by
 obtain⟨s1,s2,l1,l2,w1,w2,a1,a2,f1,f2,f3,t1,t2,t3,e1,e2,e3,m1,m2,m3,b1,b2,b3,r1,r2,r3⟩:=k
 constructor<;>simp only[CZ]<;>omega
theorem Among.both {t:T}(k:t.Ok) {L:Line}(r:reckons t L) {x:X}(h:Among t x):both t L x:=Xc k r h.t1 h.t2 h.e1 h.e2

theorem Wk {t:T}(k:t.Ok) {a b:Int}(h0:0<a) (h:a<=b):FO t b<=FO t a:=IG k.prod.p1 h0 h
theorem XL {t:T}(k:t.Ok) {a b:Int}(h0:0<a) (h:a<=b):Hp t b<=Hp t a:=IG k.prod.p7 h0 h

theorem Vn {t:T}(k:t.Ok) {L:Line}(v:Valid L) (r:reckons t L) {x y:X}(hx:Among t x) (hy:Among t y) (h1:x.force<=y.force) (h2:y.block<=x.block) (h3:x.form=y.form) (h4:x.rough<=y.rough) (h5:y.tank<=x.tank) (h6:x.XO<=y.XO):EB t L x<=EB t L y:=by
 obtain⟨a1,a2⟩:=hx.both k r
 obtain⟨b1,b2⟩:=hy.both k r
 have t1:=k.t1;have e1:=k.e1;have c1:=hy.t1;have c2:=hx.e1
 refine Zg k (hx.bd k) (hy.bd k) h1 h2 h3 h4 (S7 v a1 b1 (Wk k Al h5)) (S7 v b2 a2 (XL k Al h6)) (GR v b1).1 (GR v a2).1
theorem pF {t:T}(k:t.Ok) {L:Line}(v:Valid L) (r:reckons t L) {x:X}(h:Among t x):EB t L (Ey t x.form)<=EB t L x:=
 Vn k v r (MR k h.m1 h.m2) h h.f1 h.b2 rfl h.r1 h.t2 h.e1
theorem jP {t:T}(k:t.Ok) {L:Line}(v:Valid L) (r:reckons t L) {x:X}(h:Among t x):EB t L x<=EB t L (CZ t x.form):=
 Vn k v r h (NY k h.m1 h.m2) h.f2 h.b1 rfl h.r2 h.t1 h.e2
theorem Rs {t:T}(k:t.Ok) {L:Line}(v:Valid L) (r:reckons t L) {x:X}(h:Among t x): -200000<=EB t L x/\EB t L x<=1000202000:=by
 obtain⟨a1,a2⟩:=h.both k r
 exact P4 k (h.bd k) (GR v a1) (GR v a2)

theorem MF {t:T}{S:Lines}(F:Jp t S):TJ (vj t S) (IU t S):=by
 have hm:=F.tk.m2;have h1:=F.tk.m1;have h3:=F.tk.m3;have hl:=F.sv.lo
 have hx:∃v,TJ (vj t S) v:=Ti (-200000) (by
  rintro w ⟨i,hi,m,h4,h5,rfl⟩
  exact(Rs F.tk (F.sv.v i hi) (F.r i hi) (MR F.tk Al Al)).1) ⟨_,0,by omega,t.ml,Int.le_refl _,hm,rfl⟩
 obtain⟨v,hv⟩:=hx
 unfold IU
 rw[Uu hv]
 exact hv
theorem KR {t:T}{S:Lines}(F:Jp t S):Vx (gG t S) (IV t S):=by
 have hm:=F.tk.m2;have h1:=F.tk.m1;have h3:=F.tk.m3;have hl:=F.sv.lo
 have hx:∃v,Vx (gG t S) v:=cB 1000202000 (by
  rintro w ⟨i,hi,m,h4,h5,rfl⟩
  exact(Rs F.tk (F.sv.v i hi) (F.r i hi) (NY F.tk Al Al)).2) ⟨_,0,by omega,t.ml,Int.le_refl _,hm,rfl⟩
 obtain⟨v,hv⟩:=hx
 unfold IV
 rw[Uv hv]
 exact hv
theorem boxed {t:T}{S:Lines}(F:Jp t S) {i:Nat}(hi:i<S.k) {x:X}(hx:Among t x) (h1:t.ml<=x.form) (h2:x.form<=t.mh):IU t S<=EB t (S.ln i) x/\EB t (S.ln i) x<=IV t S:=by
 have a:=(MF F).2 _ ⟨i,hi,x.form,h1,h2,rfl⟩
 have b:=(KR F).2 _ ⟨i,hi,x.form,h1,h2,rfl⟩
 have c:=pF F.tk (F.sv.v i hi) (F.r i hi) hx
 have d:=jP F.tk (F.sv.v i hi) (F.r i hi) hx
 omega
theorem VS {t:T}{S:Lines}(F:Jp t S): -200000<=IU t S/\IU t S<=IV t S/\IV t S<=1000202000:=by
 have h1:=F.tk.m1;have h3:=F.tk.m3
 obtain⟨⟨i,hi,m,h4,h5,e⟩, -⟩:=MF F
 obtain⟨⟨j,hj,m',h4',h5',e'⟩, -⟩:=KR F
 have a:=Rs F.tk (F.sv.v i hi) (F.r i hi) (MR F.tk (m:=m) Al Al)
 have b:=Rs F.tk (F.sv.v j hj) (F.r j hj) (NY F.tk (m:=m') Al Al)
 have c:=boxed F hi (MR F.tk (m:=m) Al Al) h4 h5
 omega
end AE.Drag
