/- Walks and plain laws: TSpanC, TSpanD, TSpanE. -/
import Derived.Test.YtneenfjffejnoaaGreatAEBy2
import Derived.Test.YtneenfjffejnoaaGreatJoin24
set_option linter.unusedVariables false
set_option linter.unusedSimpArgs false
set_option linter.unusedSectionVars false

/- Walks of span: does a truth fit. -/
namespace AE.Tryz.Spn
open Go AE Go.Proofs AE.Sp
set_option maxRecDepth 100000
set_option linter.unusedVariables false

theorem BJ {a b A B:Int}(h1: -A<=a) (h2:a<=A) (h3: -B<=b) (h4:b<=B): -(A*B)<=a*b/\a*b<=A*B:=by
 have hA:0<=A:=by omega
 have hB:0<=B:=by omega
 have m:=Int.mul_le_mul (show(a.natAbs:Int)<=A by omega) (show(b.natAbs:Int)<=B by omega) Al hA
 rw[<-Int.natCast_mul,<-Int.natAbs_mul]at m
 omega

def _root_.AE.Sp.Er.cells (t:Er):List Value:=[.int .i64 t.a,.int .i64 t.b,.int .i64 t.d]
structure _root_.AE.Sp.Er.Val (t:Er):Prop where
 d:1<=t.d/\t.d<=1099511627776
 a: -1099511627776<=t.a/\t.a<=1099511627776
 b: -1099511627776<=t.b/\t.b<=1099511627776
structure _root_.AE.Sp.Er.Bd (t:Er):Prop where
 d: -1099511627776<=t.d/\t.d<=1099511627776
 a: -1099511627776<=t.a/\t.a<=1099511627776
 b: -1099511627776<=t.b/\t.b<=1099511627776
theorem _root_.AE.Sp.Er.Val.bd {t:Er}(k:t.Val):t.Bd:=⟨by have:=k.d;omega,k.a,k.b⟩
def Run.Fit (x:Run) (t:Er):Prop:=x.lo*t.d<=x.p*t.a+x.q*t.b/\x.p*t.a+x.q*t.b<=x.hi*t.d
noncomputable instance (t:Er):Decidable t.Val:=Classical.propDecidable _
instance (x:Run) (t:Er):Decidable (x.Fit t):=inferInstanceAs (Decidable (_/\_))
def Runs.Fits (L:Runs) (t:Er):Prop:=∀i,i<L.n->(L.f i).Fit t
noncomputable instance (L:Runs) (t:Er):Decidable (L.Fits t):=Classical.propDecidable _
open Classical in
noncomputable def Runs.EA (L:Runs) (t:Er):Int:=if L.err≠0 then L.err else if¬t.Val then 2 else if L.Fits t then 0 else 20
structure Ajd (x:Run) (t:Er):Prop where
 pa: -(20*1099511627776)<=x.p*t.a/\x.p*t.a<=20*1099511627776
 qb: -(20*1099511627776)<=x.q*t.b/\x.q*t.b<=20*1099511627776
 ld: -(100000*1099511627776)<=x.lo*t.d/\x.lo*t.d<=100000*1099511627776
 hd: -(100000*1099511627776)<=x.hi*t.d/\x.hi*t.d<=100000*1099511627776
theorem prods {x:Run}{t:Er}(k:x.Ok) (b:t.Bd):Ajd x t:=by
 obtain⟨k1,k2,k3,k4,k5,k6⟩:=k
 obtain⟨b1,b2,b3⟩:=b
 exact⟨BJ k1.1 k1.2 b2.1 b2.2,BJ k2.1 k2.2 b3.1 b3.2,BJ Al Al b1.1 b1.2,BJ Al Al b1.1 b1.2⟩

set_option maxHeartbeats 1000000 in
theorem oP {h:H}{L:Runs}{m:Nat}{t:Er}(hm:m<=h.next) (hL:L.Ok m h):AW Tryz.prog 18 h.next h [.slice L.b L.n L.c,.agg ⟨t.cells⟩] (fun v _=>v= .int .i64 (L.EA t)):=by
 have hL0:=hL
 obtain⟨e1,i1,r1,l1⟩:=hL
 refine Agj.call rfl (Nat.le_refl _) ?_
 unfold a18 Er.cells
 have An5:L.err≠0->L.EA t=L.err:=fun h=>by unfold Runs.EA;rw[if_pos h]
 have Ahc:L.err=0->¬t.Val->L.EA t=2:=fun h h'=>by unfold Runs.EA;rw[if_neg (fun k=>k h),if_pos h']
 (focus((try with_reducible apply wpC.to);(repeat'((conv=>whnf);first|refine Ak ?_|(apply Fork.mk<;>(intro _;try(exfalso;omega)))|((first|refine kTSpanB4 ?_|refine kTSpanB1 ?_|refine kTSpanB0 ?_);first|((first|apply Ae|apply Ac|apply Ad)<;>intro _ _ _ _<;>try contradiction)|(apply Ab;intro _ _ _))|refine Ba ?_|refine A8 ?_|fail));all_goals((conv=>whnf);try with_reducible apply At.mk)))
 ·(refine Au ?_)
  rw[An5 (by assumption)]
 rotate_left
 ·(refine Au ?_)
  rw[Ahc (by assumption) fun k=>by obtain⟨a,b,c⟩:=k;omega]
 ·(refine Au ?_)
  rw[Ahc (by assumption) fun k=>by obtain⟨a,b,c⟩:=k;omega]
 have he:L.err=0:=by assumption
 have hv:t.Val:=⟨by assumption,by omega,by omega⟩
 obtain⟨ln,lv⟩:=L.Tj he
 have An4:¬L.Fits t->L.EA t=20:=fun h'=>by unfold Runs.EA;rw[if_neg (fun k=>k he),if_neg (fun k=>k hv),if_neg h']
 refine wp_loop (fun s:Nat=>[(3,.pointer (some ⟨h.next,0,none⟩)),(27,.slice L.b L.n L.c),(28,.int .i64 L.n),(29,.int .i64 s)])
  (fun s h1=>h1.get h.next=some (.cells [.int .i64 t.a,.int .i64 t.b,.int .i64 t.d] 43)/\Same m h h1/\h.next+1<=h1.next/\s<=L.n/\∀i,i<s->(L.f i).Fit t) (fun s=>L.n - s) 0 ⟨rfl,rfl,rfl,rfl,trivial⟩ ⟨Aa,Aq,Ah,by omega,fun i hi=>absurd hi (Nat.not_lt_zero i)⟩ ?_
 rintro s g h1 ⟨x1,sm,n1,hs,hp⟩ K hK
 have i5:=i1.same sm r1
 by_cases hsn:s<L.n
 ·have x5:=r1 Al
  obtain⟨p1,p2,p3,p4⟩:=prods (lv s hsn) hv.bd
  unfold Run.cells at i5
  (focus((try with_reducible apply wpC.to);(repeat'((conv=>whnf);first|refine Ak ?_|(apply Fork.mk<;>(intro _;try(exfalso;omega)))|((first|refine kTSpanB4 ?_|refine kTSpanB1 ?_|refine kTSpanB0 ?_);first|((first|apply Ae|apply Ac|apply Ad)<;>intro _ _ _ _<;>try contradiction)|(apply Ab;intro _ _ _))|refine Ba ?_|refine A8 ?_|fail));all_goals((conv=>whnf);try with_reducible apply At.mk)))
  ·refine hK (s+1) _ _ ⟨rfl,rfl,rfl,AK rfl Al,trivial⟩ ⟨Aa,Aq,Ah,by omega,fun i hi=>?_⟩ Al
   by_cases e:i=s
   ·subst e;assumption
   ·exact hp i Al
  ·(refine Au ?_)
   rw[An4 (fun k=>by have:=k s hsn;contradiction)]
 ·obtain rfl:s=L.n:=by omega
  (refine Aj ?_)
  (refine Au ?_)
  unfold Runs.EA;rw[if_neg (fun k=>k he),if_neg (fun k=>k hv),if_pos (show L.Fits t from hp)]
theorem kTSpanC0 {G G':Prop}(g:G') (t:G'->G:=by((apply Ar);(focus exact Ao);(focus exact AQ);(focus((apply oP;rotate_left;(focus(apply Runs.Ok.same;(focus assumption);(focus exact Aq);(focus exact Nat.le_refl _)));(focus exact Ah)))))):G:=t g


theorem ru {h:H}{t:Er}:AW Tryz.prog 52 h.next h [.agg ⟨t.cells⟩] (fun v _=>v= .bool (decide t.Val)):=by
 refine Afp.call rfl (Nat.le_refl _) ?_
 unfold a52 Er.cells
 (focus((try with_reducible apply wpC.to);(repeat'((conv=>whnf);first|refine Ak ?_|(apply Fork.mk<;>(intro _;try(exfalso;omega)))|fail));all_goals((conv=>whnf);try with_reducible apply At.mk)))
 all_goals(refine Au ?_)
 all_goals first|exact CI rfl ⟨by omega,by omega,by omega⟩|exact Ch rfl (fun k=>by obtain⟨a,b,c⟩:=k;omega)
theorem kTSpanC1 {G G':Prop}(g:G') (t:G'->G:=by((apply Ar);(focus exact Ao);(focus exact AQ);(focus((apply ru))))):G:=t g
theorem iE {h:H}{L:Runs}{i o o' k:Nat}{l:List Value}(e:JP h L.a L.n 4 (fun i=>(L.f i).cells)) (hi:i<L.n) (hc:cut (L.f i).cells (o+o') k=some l):h.Bu (BI (BI (BI L.a (i*4)) o) o') k=some l:=by
 have:=IB (e i hi) hc
 unfold H.Bu BI at this⊢
 simp only[Nat.add_assoc]at this⊢
 exact this
theorem Bg {G G':Prop}(g:G') (t:G'->G:=by(((with_reducible apply Ei.mk);(focus((repeat(first|(apply iE<;>first|assumption|omega|exact rfl)|with_reducible apply Jl|((with_reducible apply KG);focus(dsimp only[BI];omega))|((with_reducible apply Hq);(focus assumption);focus(dsimp only[BI];omega))|((with_reducible apply IY);(focus assumption);focus(dsimp only[BI];omega))));(first|done|fail)));(focus exact Nj)))):G:=t g
set_option maxHeartbeats 1000000 in
theorem Abd {h:H}{L:Runs}{m:Nat}{t:Er}(hm:m<=h.next) (hL:L.Ok m h) (lv:L.Val) (tb:t.Bd):AW Tryz.prog 53 h.next h [.slice L.b L.n L.c,.agg ⟨t.cells⟩] (fun v _=>v= .bool (decide (L.Fits t))):=by
 obtain⟨e1,i1,r1,l1⟩:=hL
 refine Afo.call rfl (Nat.le_refl _) ?_
 unfold a53 Er.cells
 (refine Aj ?_)
 refine wp_loop (fun s:Nat=>[(0,.slice L.b L.n L.c),(3,.pointer (some ⟨h.next,0,none⟩)),(5,.int .i64 s)])
  (fun s h1=>h1.get h.next=some (.cells [.int .i64 t.a,.int .i64 t.b,.int .i64 t.d] 43)/\Same m h h1/\h.next+1<=h1.next/\s<=L.n/\∀i,i<s->(L.f i).Fit t) (fun s=>L.n - s) 0 ⟨rfl,rfl,rfl,trivial⟩ ⟨Aa,Aq,Ah,by omega,fun i hi=>absurd hi (Nat.not_lt_zero i)⟩ ?_
 rintro s g h1 ⟨x1,sm,n1,hs,hp⟩ K hK
 have i5:=i1.same sm r1
 by_cases hsn:s<L.n
 ·have x5:=r1 Al
  obtain⟨p1,p2,p3,p4⟩:=prods (lv s hsn) tb
  (focus((try with_reducible apply wpC.to);(repeat'((conv=>whnf);first|refine Ak ?_|(apply Fork.mk<;>(intro _;try(exfalso;omega)))|refine Bg ?_|refine A8 ?_|fail));all_goals((conv=>whnf);try with_reducible apply At.mk)))
  ·(refine Au ?_)
   exact Ch rfl (fun k=>by have:=(k s hsn).1;omega)
  ·(refine Au ?_)
   exact Ch rfl (fun k=>by have:=(k s hsn).2;omega)
  ·refine hK (s+1) _ _ ⟨rfl,rfl,AK rfl Al,trivial⟩ ⟨Aa,Aq,Ah,by omega,fun i hi=>?_⟩ Al
   by_cases e:i=s
   ·subst e;exact⟨by omega,by omega⟩
   ·exact hp i Al
 ·obtain rfl:s=L.n:=by omega
  (refine Aj ?_)
  (refine Au ?_)
  exact CI rfl hp
theorem Vg {h:H}{L:Runs}{m:Nat}{t:Er}(hm:m<=h.next) (hL:L.Ok m h):AW Tryz.prog 17 h.next h [.slice L.b L.n L.c,.agg ⟨t.cells⟩] (fun v _=>v= .int .i64 (L.EA t)):=by
 have hL0:=hL
 refine Agk.call rfl (Nat.le_refl _) ?_
 unfold a17 Er.cells
 (focus((try with_reducible apply wpC.to);(repeat'((conv=>whnf);first|refine Ak ?_|(apply Fork.mk<;>(intro _;try(exfalso;omega)))|((first|refine kTSpanC1 ?_|refine kTSpanB7 ?_);first|((first|apply Ae|apply Ac|apply Ad)<;>intro _ _ _ _<;>try contradiction)|(apply Ab;intro _ _ _))|fail));all_goals((conv=>whnf);try with_reducible apply At.mk)))
 ·(refine Au ?_)
  unfold Runs.EA;rw[if_pos (by assumption)]
 rotate_left
 ·(refine Au ?_)
  unfold Runs.EA;rw[if_neg (fun k=>k (by assumption)),if_pos (by assumption)]
 obtain⟨ln,lv⟩:=L.Tj (by assumption)
 have tv:t.Val:=by assumption
 apply Fp
 focus(exact Ao)
 focus(exact AQ)
 focus exact Abd (t:=t) (m:=m) Ah (hL.same Aq (Nat.le_refl _)) lv tv.bd
 ·intro hb h2 q2 n2
  (refine Aj ?_)
  (refine Au ?_)
  unfold Runs.EA;rw[if_neg (fun k=>k (by assumption)),if_neg (fun k=>k tv),if_pos (of_decide_eq_true hb)]
 ·intro hb h2 q2 n2
  (refine Aj ?_)
  (refine Au ?_)
  unfold Runs.EA;rw[if_neg (fun k=>k (by assumption)),if_neg (fun k=>k tv),if_neg (of_decide_eq_false hb)]
theorem kTSpanC2 {G G':Prop}(g:G') (t:G'->G:=by((apply Ar);(focus exact Ao);(focus exact AQ);(focus((apply Vg;rotate_left;(focus(apply Runs.Ok.same;(focus assumption);(focus exact Aq);(focus exact Nat.le_refl _)));(focus exact Ah)))))):G:=t g
end AE.Tryz.Spn

/- Walks of span: sides, put together. -/
namespace AE.Tryz.Spn
open Go AE Go.Proofs AE.Sp
set_option maxRecDepth 100000
set_option linter.unusedVariables false

def _root_.AE.Sp.Sd.cells (s:Sd):List Value:=[.int .i64 s.u,.int .i64 s.v,.int .i64 s.w]
def _root_.AE.Sp.Sd.by (s:Sd) (n:Int):Sd:=⟨s.u*n,s.v*n,s.w*n⟩
def _root_.AE.Sp.Sd.add (a b:Sd):Sd:=⟨a.u+b.u,a.v+b.v,a.w+b.w⟩
def _root_.AE.Sp.Sd.flat (s:Sd):Sd:=⟨s.u,s.v,0⟩
def _root_.AE.Sp.Sd.size (s:Sd):Int:=max s.u (-s.u)+max s.v (-s.v)
def Run.lower (x:Run):Sd:=⟨x.p,x.q,x.lo⟩
def Run.upper (x:Run):Sd:=⟨-x.p, -x.q, -x.hi⟩
def Up (X x:Int):Prop:= -X<=x/\x<=X
structure _root_.AE.Sp.Sd.Up (F W:Int) (s:Sd):Prop where
 u: -F<=s.u/\s.u<=F
 v: -F<=s.v/\s.v<=F
 w: -W<=s.w/\s.w<=W
theorem Run.Ok.lower {x:Run}(k:x.Ok):x.lower.Up 20 100000:=by obtain⟨a,b,c,d,e,f⟩:=k;exact⟨a,b,by unfold Run.lower;dsimp only;omega⟩
theorem Run.Ok.upper {x:Run}(k:x.Ok):x.upper.Up 20 100000:=by obtain⟨a,b,c,d,e,f⟩:=k;exact⟨by unfold Run.upper;dsimp only;omega,by unfold Run.upper;dsimp only;omega,by unfold Run.upper;dsimp only;omega⟩

theorem An1 {h:H}{s:Sd}{n F W N:Int}(k:s.Up F W) (hn: -N<=n/\n<=N) (h1:F*N<=4611686018427387904) (h2:W*N<=4611686018427387904):AW Tryz.prog 201 h.next h [.agg ⟨s.cells⟩,.int .i64 n] (fun v _=>v= .agg ⟨(s.by n).cells⟩):=by
 have b1:=BJ k.u.1 k.u.2 hn.1 hn.2
 have b2:=BJ k.v.1 k.v.2 hn.1 hn.2
 have b3:=BJ k.w.1 k.w.2 hn.1 hn.2
 refine zN.call rfl (Nat.le_refl _) ?_
 unfold a201 Sd.cells
 (refine Aj ?_)
 (refine Au ?_)
 rfl
theorem Abc {h:H}{s:Sd}:AW Tryz.prog 114 h.next h [.agg ⟨s.cells⟩] (fun v _=>v= .agg ⟨s.flat.cells⟩):=by
 refine Aay.call rfl (Nat.le_refl _) ?_
 unfold Ai0 Sd.cells
 (refine Aj ?_)
 (refine Au ?_)
 rfl
theorem uE {h:H}{a b:Sd}{F W F' W':Int}(k:a.Up F W) (k':b.Up F' W') (h1:F*F'<=2305843009213693952):AW Tryz.prog 193 h.next h [.agg ⟨a.cells⟩,.agg ⟨b.cells⟩] (fun v _=>v= .int .i64 (cr a b)):=by
 have b1:=BJ k.u.1 k.u.2 k'.v.1 k'.v.2
 have b2:=BJ k.v.1 k.v.2 k'.u.1 k'.u.2
 refine zU.call rfl (Nat.le_refl _) ?_
 unfold a193 Sd.cells
 (refine Aj ?_)
 (refine Au ?_)
 rfl
theorem xe {h:H}{s:Sd}{F W:Int}(k:s.Up F W) (h1:F<=2305843009213693952):AW Tryz.prog 199 h.next h [.agg ⟨s.cells⟩] (fun v _=>v= .int .i64 s.size):=by
 have b1:=k.u
 have b2:=k.v
 refine zP.call rfl (Nat.le_refl _) ?_
 unfold Aic Sd.cells
 (refine Aj ?_)
 (refine Au ?_)
 rfl
theorem xF {h:H}{x:Run}(k:x.Ok):AW Tryz.prog 111 h.next h [.agg ⟨x.cells⟩] (fun v _=>v= .agg ⟨x.cells++x.lower.cells++x.upper.cells⟩):=by
 obtain⟨k1,k2,k3,k4,k5,k6⟩:=k
 refine Aa0.call rfl (Nat.le_refl _) ?_
 unfold Ai2 Run.cells
 (refine Aj ?_)
 (refine Au ?_)
 rfl
end AE.Tryz.Spn

/- Walks of span: fractions; sums of sides. -/
namespace AE.Tryz.Spn
open Go AE Go.Proofs AE.Sp
set_option maxRecDepth 100000
set_option linter.unusedVariables false


structure Fr where
 n:Int
 d:Int
theorem Fr.ext' {x y:Fr}(h1:x.n=y.n) (h2:x.d=y.d):x=y:=by cases x;cases y;dsimp only at h1 h2;rw[h1,h2]
instance:DecidableEq Fr:=fun x y=>decidable_of_iff (x.n=y.n/\x.d=y.d) ⟨fun h=>Fr.ext' h.1 h.2,fun h=>h▸⟨rfl,rfl⟩⟩
def Fr.cells (x:Fr):List Value:=[.int .i64 x.n,.int .i64 x.d]
def fr (n d:Int):Fr:=⟨n / (Int.gcd n d:Int),d / (Int.gcd n d:Int)⟩
theorem MI (n d:Int) (hd:0<=d):Int.gcd n d=Nat.gcd n.natAbs d.toNat:=by
 unfold Int.gcd
 congr 1
 omega
theorem RP (n d:Int):n.tdiv (Int.gcd n d:Int)=n / (Int.gcd n d:Int):=Int.tdiv_eq_ediv_of_dvd (Int.gcd_dvd_left ..)
theorem WL (a:Int):fr a 1=⟨a,1⟩:=by
 unfold fr
 rw[Int.gcd_one]
 simp
structure Hh (x:Fr) (n d:Int):Prop where
 d0:0<x.d
 ex:∃g:Int,0<g/\n=x.n*g/\d=x.d*g
theorem fD {n d:Int}(hd:0<d):Hh (fr n d) n d:=by
 have hg:0<(Int.gcd n d:Int):=Int.natCast_pos.2 (Int.gcd_pos_of_ne_zero_right n Al)
 have e1:=Int.ediv_mul_cancel (Int.gcd_dvd_left n d)
 have e2:=Int.ediv_mul_cancel (Int.gcd_dvd_right n d)
 exact⟨Int.ediv_pos_of_pos_of_dvd hd Al (Int.gcd_dvd_right n d),_,hg,e1.symm,e2.symm⟩
theorem Hh.xW {x:Fr}{n d:Int}(k:Hh x n d):x.d<=d:=by
 obtain⟨h,g,hg, -,rfl⟩:=k
 have:=Int.mul_le_mul_of_nonneg_left (show 1<=g by omega) (show 0<=x.d by omega)
 omega
theorem Kg {a b c:Int}(hc:0<c) (h:a*c<=b*c):a<=b:=Int.le_of_mul_le_mul_right h hc
theorem Hh.le {x y:Fr}{n d n' d':Int}(k:Hh x n d) (k':Hh y n' d') (h:n*d'<=n'*d):x.n*y.d<=y.n*x.d:=by
 obtain⟨h1,g,hg,rfl,rfl⟩:=k
 obtain⟨h2,g',hg',rfl,rfl⟩:=k'
 refine Kg (c:=g*g') (Int.mul_pos hg hg') ?_
 have e1:x.n*y.d* (g*g')=x.n*g* (y.d*g'):=by ac_rfl
 have e2:y.n*x.d* (g*g')=y.n*g'* (x.d*g):=by ac_rfl
 rw[e1,e2]
 exact h
theorem Hh.whole (a:Int):Hh ⟨a,1⟩ a 1:=⟨Int.one_pos,1,by decide,by simp,rfl⟩
theorem LY {n d c:Int}(hd:0<d) (hc:0<c):fr (n*c) (d*c)=fr n d:=by
 have e:(Int.gcd (n*c) (d*c):Int)=(Int.gcd n d:Int) *c:=by
  rw[Int.gcd_mul_right,Int.natCast_mul,Int.natAbs_of_nonneg Al]
 unfold fr
 rw[e,Int.mul_ediv_mul_of_pos_left _ _ hc,Int.mul_ediv_mul_of_pos_left _ _ hc]
theorem oM {n d n' d':Int}(hd:0<d) (hd':0<d') (h:n*d'=n'*d):fr n d=fr n' d':=by
 rw[<-LY hd hd',h,Int.mul_comm d d',LY hd' hd]
theorem Hh.bnd {z:Fr}{n d X:Int}(k:Hh z n d) (h1: -X<=n) (h2:n<=X): -X<=z.n/\z.n<=X:=by
 obtain⟨_,g,hg,rfl,rfl⟩:=k
 rcases Int.le_total 0 z.n with h|h
 ·have:=Int.mul_le_mul_of_nonneg_left (show 1<=g by omega) h
  omega
 ·have:=Int.mul_le_mul_of_nonneg_left (show 1<=g by omega) (show 0<= -z.n by omega)
  rw[Int.neg_mul,Int.neg_mul]at this
  omega

theorem pD {h:H}{n d:Int}(hn: -9223372036854775808<n/\n<9223372036854775808) (hd:0<d/\d<9223372036854775808):AW Tryz.prog 194 h.next h [.int .i64 n,.int .i64 d] (fun v _=>v= .int .i64 (Int.gcd n d:Int)):=by
 refine zT.call rfl (Nat.le_refl _) ?_
 unfold a194
 (refine Aj ?_)
 refine wp_loop (fun s:Nat × Nat=>[(0,.int .i64 s.1),(1,.int .i64 s.2)]) (fun s h1=>Quiet h.next h h1/\Nat.gcd s.1 s.2=Int.gcd n d/\s.1<9223372036854775808/\s.2<9223372036854775808/\(0<s.1\/0<s.2)) (fun s=>s.1) (n.natAbs,d.toNat) ⟨AK rfl (by dsimp only;omega),AK rfl (by dsimp only;omega),trivial⟩ ⟨AO,(MI n d Al).symm,by dsimp only;omega,by dsimp only;omega,by dsimp only;omega⟩ ?_
 rintro⟨a,b⟩ g h1 ⟨q1,hg,ha,hb,hab⟩ K hK
 dsimp only at hg ha hb hab⊢
 (focus((try with_reducible apply wpC.to);(repeat'((conv=>whnf);first|refine Ak ?_|(apply Fork.mk<;>(intro _;try(exfalso;omega)))|fail));all_goals((conv=>whnf);try with_reducible apply At.mk)))
 ·refine hK (b%a,a) _ _ ⟨AK rfl (by dsimp only;omega),AK rfl (by dsimp only),trivial⟩ ⟨AO,?_,?_,ha,?_⟩ ?_
  ·dsimp only
   rw[<-hg]
   exact(Nat.gcd_rec a b).symm
  ·dsimp only
   have:=Nat.mod_lt b (show 0<a by omega)
   omega
  ·dsimp only;omega
  ·dsimp only
   exact Nat.mod_lt b (show 0<a by omega)
 ·obtain rfl:a=0:=by omega
  (refine Au ?_)
  rw[<-hg]
  simp
theorem kTSpanE0 {G G':Prop}(g:G') (t:G'->G:=by((apply Ar);(focus exact Ao);(focus exact AQ);(focus((apply pD;(focus omega);(focus omega)))))):G:=t g
theorem dW {h:H}{n d:Int}(hn: -9223372036854775808<n/\n<9223372036854775808) (hd:0<d/\d<9223372036854775808):AW Tryz.prog 105 h.next h [.int .i64 n,.int .i64 d] (fun v _=>v= .agg ⟨(fr n d).cells⟩):=by
 have hg0:0<(Int.gcd n d:Int):=Int.natCast_pos.2 (Int.gcd_pos_of_ne_zero_right n Al)
 have hgl:(Int.gcd n d:Int)<=d:=Int.le_of_dvd Al (Int.gcd_dvd_right n d)
 refine Aa5.call rfl (Nat.le_refl _) ?_
 unfold a105
 (focus((try with_reducible apply wpC.to);(repeat'((conv=>whnf);first|refine Ak ?_|((refine kTSpanE0 ?_);first|((first|apply Ae|apply Ac|apply Ad)<;>intro _ _ _ _<;>try contradiction)|(apply Ab;intro _ _ _))|fail));all_goals((conv=>whnf);try with_reducible apply At.mk)))
 refine vp.td ⟨by omega,by omega,by omega⟩ ?_
 rw[RP]
 (refine Aj ?_)
 (refine Au ?_)
 rfl

theorem Aey {h:H}{a b:Int}(ha:0<=a/\a<9223372036854775808) (hb:0<b/\b<9223372036854775808):AW Tryz.prog 116 h.next h [.int .i64 a,.int .i64 b] (fun v _=>v= .int .i64 (Int.gcd a b:Int)):=by
 refine Aaw.call rfl (Nat.le_refl _) ?_
 unfold a116
 (refine Aj ?_)
 refine wp_loop (fun s:Nat × Nat=>[(0,.int .i64 s.1),(1,.int .i64 s.2)]) (fun s h1=>Quiet h.next h h1/\Nat.gcd s.1 s.2=Int.gcd a b/\s.1<9223372036854775808/\s.2<9223372036854775808/\(0<s.1\/0<s.2)) (fun s=>s.2) (a.natAbs,b.toNat) ⟨AK rfl (by dsimp only;omega),AK rfl (by dsimp only;omega),trivial⟩ ⟨AO,(MI a b Al).symm,by dsimp only;omega,by dsimp only;omega,by dsimp only;omega⟩ ?_
 rintro⟨x,y⟩ g h1 ⟨q1,hg,hx,hy,hxy⟩ K hK
 dsimp only at hg hx hy hxy⊢
 (focus((try with_reducible apply wpC.to);(repeat'((conv=>whnf);first|refine Ak ?_|(apply Fork.mk<;>(intro _;try(exfalso;omega)))|fail));all_goals((conv=>whnf);try with_reducible apply At.mk)))
 ·refine hK (y,x%y) _ _ ⟨AK rfl (by dsimp only),AK rfl (by dsimp only;omega),trivial⟩ ⟨AO,?_,hy,?_,?_⟩ ?_
  ·dsimp only
   rw[<-hg,Nat.gcd_comm x y]
   exact(Nat.gcd_rec y x).symm▸(Nat.gcd_comm y (x%y))
  ·dsimp only
   have:=Nat.mod_lt x (show 0<y by omega)
   omega
  ·dsimp only;omega
  ·dsimp only
   exact Nat.mod_lt x (show 0<y by omega)
 ·obtain rfl:y=0:=by omega
  (refine Au ?_)
  rw[<-hg]
  simp
theorem qB {h:H}{n:Int}(hn: -9223372036854775808<n/\n<9223372036854775808):AW Tryz.prog 117 h.next h [.int .i64 n] (fun v _=>v= .int .i64 (max n (-n))):=by
 refine Aav.call rfl (Nat.le_refl _) ?_
 unfold a117
 (refine Aj ?_)
 (refine Au ?_)
 rfl
theorem kTSpanE1 {G G':Prop}(g:G') (t:G'->G:=by((apply Ar);(focus exact Ao);(focus exact AQ);(focus((apply Aey;(focus omega);(focus omega)))))):G:=t g
theorem kTSpanE2 {G G':Prop}(g:G') (t:G'->G:=by((apply Ar);(focus exact Ao);(focus exact AQ);(focus((apply qB;(focus omega)))))):G:=t g
theorem iN {h:H}{n d:Int}(hn: -9223372036854775808<n/\n<9223372036854775808) (hd:0<d/\d<9223372036854775808):AW Tryz.prog 50 h.next h [.int .i64 n,.int .i64 d] (fun v _=>v= .agg ⟨(fr n d).cells⟩):=by
 have hg0:0<(Int.gcd n d:Int):=Int.natCast_pos.2 (Int.gcd_pos_of_ne_zero_right n Al)
 have hgl:(Int.gcd n d:Int)<=d:=Int.le_of_dvd Al (Int.gcd_dvd_right n d)
 have hga:(Int.gcd (max n (-n)) d)=Int.gcd n d:=by rw[MI _ _ Al,MI _ _ Al];congr 1;omega
 refine Afr.call rfl (Nat.le_refl _) ?_
 unfold a50
 (focus((try with_reducible apply wpC.to);(repeat'((conv=>whnf);first|refine Ak ?_|((first|refine kTSpanE2 ?_|refine kTSpanE1 ?_);first|((first|apply Ae|apply Ac|apply Ad)<;>intro _ _ _ _<;>try contradiction)|(apply Ab;intro _ _ _))|fail));all_goals((conv=>whnf);try with_reducible apply At.mk)))
 rw[hga]
 refine vp.td ⟨by omega,by omega,by omega⟩ ?_
 rw[RP]
 (refine Aj ?_)
 (refine Au ?_)
 rfl


set_option maxHeartbeats 1000000 in
theorem Ac6 {h:H}{a b:Sd}{r:Nat}{F W:Int}{e:TypeId}(ka:a.Up F W) (kb:b.Up F W) (hF:F<=2305843009213693952) (hW:W<=2305843009213693952) (hg:h.get r=some (.cells (a.cells++b.cells) e)) (hr:r<h.next):AW Tryz.prog 200 h.next h [.slice (some ⟨r,0,none⟩) 2 2] (fun v _=>v= .agg ⟨(a.add b).cells⟩):=by
 obtain⟨a1,a2,a3⟩:=ka
 obtain⟨b1,b2,b3⟩:=kb
 unfold Sd.cells at hg
 simp only[List.cons_append,List.nil_append]at hg
 refine zO.call rfl (Nat.le_refl _) ?_
 unfold Aib
 (refine Aj ?_)
 refine wp_loop (fun s:Nat × Int × Int × Int=>[(2,.pointer (some ⟨h.next,0,none⟩)),(3,.pointer (some ⟨h.next+1,0,none⟩)),(8,.slice (some ⟨r,0,none⟩) 2 2),(9,.int .i64 2),(10,.int .i64 s.1)])
  (fun s h1=>h1.get r=some (.cells [.int .i64 a.u,.int .i64 a.v,.int .i64 a.w,.int .i64 b.u,.int .i64 b.v,.int .i64 b.w] e)/\h1.get h.next=some (.cells [.int .i64 0,.int .i64 0,.int .i64 0] 109)/\h1.get (h.next+1)=some (.cells [.int .i64 s.2.1,.int .i64 s.2.2.1,.int .i64 s.2.2.2] 109)/\h.next+2<=h1.next/\s.1<=2/\(s.1=0->s.2.1=0/\s.2.2.1=0/\s.2.2.2=0)/\(s.1=1->s.2.1=a.u/\s.2.2.1=a.v/\s.2.2.2=a.w)/\(s.1=2->s.2.1=a.u+b.u/\s.2.2.1=a.v+b.v/\s.2.2.2=a.w+b.w)) (fun s=>2 - s.1) (0,0,0,0) ⟨rfl,rfl,rfl,rfl,rfl,trivial⟩ ⟨Aa,Aa,Aa,Ah,by omega,fun _=>⟨rfl,rfl,rfl⟩,fun h=>absurd h (by decide),fun h=>absurd h (by decide)⟩ ?_
 rintro⟨s,x,y,z⟩ g h1 ⟨g1,g0,g2,n1,hs,z0,z1,z2⟩ K hK
 dsimp only at hs g2 z0 z1 z2⊢
 by_cases hsn:s<2
 ·obtain rfl|rfl:s=0\/s=1:=by omega
  ·obtain⟨rfl,rfl,rfl⟩:=z0 rfl
   (refine Aj ?_)
   refine wp_loop (fun q:Nat × Int × Int × Int=>[(2,.pointer (some ⟨h.next,0,none⟩)),(3,.pointer (some ⟨h.next+1,0,none⟩)),(8,.slice (some ⟨r,0,none⟩) 2 2),(9,.int .i64 2),(10,.int .i64 ((0:Nat):Int)),(14,.agg ⟨[.int .i64 a.u,.int .i64 a.v,.int .i64 a.w]⟩),(15,.int .i64 q.1)])
    (fun q h2=>h2.get r=some (.cells [.int .i64 a.u,.int .i64 a.v,.int .i64 a.w,.int .i64 b.u,.int .i64 b.v,.int .i64 b.w] e)/\h2.get h.next=some (.cells [.int .i64 0,.int .i64 0,.int .i64 0] 109)/\h2.get (h.next+1)=some (.cells [.int .i64 q.2.1,.int .i64 q.2.2.1,.int .i64 q.2.2.2] 109)/\h.next+2<=h2.next/\q.1<=3/\q.2.1=(if 0<q.1 then(0:Int)+a.u else(0:Int))/\q.2.2.1=(if 1<q.1 then(0:Int)+a.v else(0:Int))/\q.2.2.2=(if 2<q.1 then(0:Int)+a.w else(0:Int))) (fun q=>3 - q.1) (0,(0:Int),(0:Int),(0:Int)) ⟨rfl,rfl,rfl,rfl,rfl,rfl,rfl,trivial⟩ ⟨Aa,Aa,Aa,Ah,by omega,rfl,rfl,rfl⟩ ?_
   rintro⟨q,x,y,z⟩ g' h2 ⟨g1,g0,g2,n2,hq,hx,hy,hz⟩ K' hK'
   dsimp only at hq g2 hx hy hz⊢
   by_cases hqn:q<3
   ·obtain rfl|rfl|rfl:q=0\/q=1\/q=2:=by omega
    ·rw[if_neg Al]at hx;rw[if_neg Al]at hy;rw[if_neg Al]at hz;subst x y z
     (refine Aj ?_)
     exact hK' (1,(0:Int)+a.u,(0:Int),(0:Int)) _ _ ⟨rfl,rfl,rfl,rfl,rfl,rfl,rfl,trivial⟩ ⟨Aa,Aa,Aa,Ah,by omega,rfl,rfl,rfl⟩ (by dsimp only;omega)
    ·rw[if_pos Al]at hx;rw[if_neg Al]at hy;rw[if_neg Al]at hz;subst x y z
     (refine Aj ?_)
     exact hK' (2,(0:Int)+a.u,(0:Int)+a.v,(0:Int)) _ _ ⟨rfl,rfl,rfl,rfl,rfl,rfl,rfl,trivial⟩ ⟨Aa,Aa,Aa,Ah,by omega,rfl,rfl,rfl⟩ (by dsimp only;omega)
    ·rw[if_pos Al]at hx;rw[if_pos Al]at hy;rw[if_neg Al]at hz;subst x y z
     (refine Aj ?_)
     exact hK' (3,(0:Int)+a.u,(0:Int)+a.v,(0:Int)+a.w) _ _ ⟨rfl,rfl,rfl,rfl,rfl,rfl,rfl,trivial⟩ ⟨Aa,Aa,Aa,Ah,by omega,rfl,rfl,rfl⟩ (by dsimp only;omega)
   ·obtain rfl:q=3:=by omega
    rw[if_pos Al]at hx hy hz
    subst x y z
    (refine Aj ?_)
    exact hK (1,_,_,_) _ _ ⟨rfl,rfl,rfl,rfl,rfl,trivial⟩ ⟨Aa,Aa,Aa,Ah,by dsimp only;omega,fun h=>absurd h (by dsimp only;decide),by dsimp only;omega,by dsimp only;omega⟩ (by dsimp only;omega)
  ·obtain⟨rfl,rfl,rfl⟩:=z1 rfl
   (refine Aj ?_)
   refine wp_loop (fun q:Nat × Int × Int × Int=>[(2,.pointer (some ⟨h.next,0,none⟩)),(3,.pointer (some ⟨h.next+1,0,none⟩)),(8,.slice (some ⟨r,0,none⟩) 2 2),(9,.int .i64 2),(10,.int .i64 ((1:Nat):Int)),(14,.agg ⟨[.int .i64 b.u,.int .i64 b.v,.int .i64 b.w]⟩),(15,.int .i64 q.1)])
    (fun q h2=>h2.get r=some (.cells [.int .i64 a.u,.int .i64 a.v,.int .i64 a.w,.int .i64 b.u,.int .i64 b.v,.int .i64 b.w] e)/\h2.get h.next=some (.cells [.int .i64 0,.int .i64 0,.int .i64 0] 109)/\h2.get (h.next+1)=some (.cells [.int .i64 q.2.1,.int .i64 q.2.2.1,.int .i64 q.2.2.2] 109)/\h.next+2<=h2.next/\q.1<=3/\q.2.1=(if 0<q.1 then a.u+b.u else a.u)/\q.2.2.1=(if 1<q.1 then a.v+b.v else a.v)/\q.2.2.2=(if 2<q.1 then a.w+b.w else a.w)) (fun q=>3 - q.1) (0,a.u,a.v,a.w) ⟨rfl,rfl,rfl,rfl,rfl,rfl,rfl,trivial⟩ ⟨Aa,Aa,Aa,Ah,by omega,rfl,rfl,rfl⟩ ?_
   rintro⟨q,x,y,z⟩ g' h2 ⟨g1,g0,g2,n2,hq,hx,hy,hz⟩ K' hK'
   dsimp only at hq g2 hx hy hz⊢
   by_cases hqn:q<3
   ·obtain rfl|rfl|rfl:q=0\/q=1\/q=2:=by omega
    ·rw[if_neg Al]at hx;rw[if_neg Al]at hy;rw[if_neg Al]at hz;subst x y z
     (refine Aj ?_)
     exact hK' (1,a.u+b.u,a.v,a.w) _ _ ⟨rfl,rfl,rfl,rfl,rfl,rfl,rfl,trivial⟩ ⟨Aa,Aa,Aa,Ah,by omega,rfl,rfl,rfl⟩ (by dsimp only;omega)
    ·rw[if_pos Al]at hx;rw[if_neg Al]at hy;rw[if_neg Al]at hz;subst x y z
     (refine Aj ?_)
     exact hK' (2,a.u+b.u,a.v+b.v,a.w) _ _ ⟨rfl,rfl,rfl,rfl,rfl,rfl,rfl,trivial⟩ ⟨Aa,Aa,Aa,Ah,by omega,rfl,rfl,rfl⟩ (by dsimp only;omega)
    ·rw[if_pos Al]at hx;rw[if_pos Al]at hy;rw[if_neg Al]at hz;subst x y z
     (refine Aj ?_)
     exact hK' (3,a.u+b.u,a.v+b.v,a.w+b.w) _ _ ⟨rfl,rfl,rfl,rfl,rfl,rfl,rfl,trivial⟩ ⟨Aa,Aa,Aa,Ah,by omega,rfl,rfl,rfl⟩ (by dsimp only;omega)
   ·obtain rfl:q=3:=by omega
    rw[if_pos Al]at hx hy hz
    subst x y z
    (refine Aj ?_)
    exact hK (2,_,_,_) _ _ ⟨rfl,rfl,rfl,rfl,rfl,trivial⟩ ⟨Aa,Aa,Aa,Ah,by dsimp only;omega,fun h=>absurd h (by dsimp only;decide),by dsimp only;omega,by dsimp only;omega⟩ (by dsimp only;omega)
 ·obtain rfl:s=2:=by omega
  obtain⟨rfl,rfl,rfl⟩:=z2 rfl
  (refine Aj ?_)
  (refine Au ?_)
  rfl
end AE.Tryz.Spn
