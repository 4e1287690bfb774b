/- Walks and plain laws: DragSpec2, TDragE, TDragF, TDragG, DragSpec3, TDragH, TDragI, TDragJ, TDragK. -/
import Derived.Test.YtneenfjffejnoaaGreatJoin56
import Derived.Test.YtneenfjffejnoaaGreatJoin53
import Derived.Test.YtneenfjffejnoaaGreatAEthree
set_option linter.unusedVariables false
set_option linter.unusedSimpArgs false
set_option linter.unusedSectionVars false

/- What drag computes, in plain words: tests, truths, coefficients. -/
namespace AE.Drag
open Go AE

structure T where
 speed:Int
 long:Int
 ZJ:Int
 alpha:Int
 fl:Int
 fh:Int
 tl:Int
 th:Int
 sl:Int
 sh:Int
 ml:Int
 mh:Int
 bl:Int
 bh:Int
 rl:Int
 rh:Int
def T.cells (t:T):List Value:=[.int .i64 t.speed,.int .i64 t.long,.int .i64 t.ZJ,.int .i64 t.alpha,.int .i64 t.fl,.int .i64 t.fh,.int .i64 t.tl,.int .i64 t.th,.int .i64 t.sl,.int .i64 t.sh,.int .i64 t.ml,.int .i64 t.mh,.int .i64 t.bl,.int .i64 t.bh,.int .i64 t.rl,.int .i64 t.rh]
structure X where
 force:Int
 tank:Int
 XO:Int
 form:Int
 block:Int
 rough:Int
def X.cells (x:X):List Value:=[.int .i64 x.force,.int .i64 x.tank,.int .i64 x.XO,.int .i64 x.form,.int .i64 x.block,.int .i64 x.rough]
inductive Known {α:Type} (a:α):Prop
 |mk

structure T.Ok (t:T):Prop where
 s1:1<=t.speed
 s2:t.speed<=10000
 l1:1<=t.long
 l2:t.long<=10000
 w1:1<=t.ZJ
 w2:t.ZJ<=1000000
 a1:1<=t.alpha
 a2:t.alpha<=10
 f1:0<=t.fl
 f2:t.fl<=t.fh
 f3:t.fh<=100000000
 t1:500<=t.tl
 t2:t.tl<=t.th
 t3:t.th<=3000
 e1:500<=t.sl
 e2:t.sl<=t.sh
 e3:t.sh<=3000
 m1:0<=t.ml
 m2:t.ml<=t.mh
 m3:t.mh<=1000
 b1:0<=t.bl
 b2:t.bl<=t.bh
 b3:t.bh<=200
 r1:0<=t.rl
 r2:t.rl<=t.rh
 r3:t.rh<=2000
open Classical in
noncomputable def Gi (t:T):Int:=if t.Ok then 0 else 2
theorem KA {t:T}:Gi t=0↔t.Ok:=by
 unfold Gi;split<;>simp_all
theorem Pq {t:T}(h:t.Ok):Gi t=0:=KA.2 h
theorem Uw {t:T}(h:¬t.Ok):Gi t=2:=by unfold Gi;rw[if_neg h]

structure TI (t:T) (x:X):Prop where
 f1:t.fl<=x.force
 f2:x.force<=t.fh
 t1:t.tl<=x.tank
 t2:x.tank<=t.th
 e1:t.sl<=x.XO
 e2:x.XO<=t.sh
 m1:t.ml<=x.form
 m2:x.form<=t.mh
 b1:t.bl<=x.block
 b2:x.block<=t.bh
 r1:t.rl<=x.rough
 r2:x.rough<=t.rh

noncomputable instance (t:T) (x:X):Decidable (TI t x):=Classical.propDecidable _
def FO (t:T) (w:Int):Int:=t.speed*t.long / w
def Hp (t:T) (w:Int):Int:=t.speed*t.long*t.alpha*t.alpha*t.alpha / w
def measured (t:T) (f:Int):Int:=min 1000000000 (20000000000*f / (t.ZJ*t.speed*t.speed))
def NM (t:T) (x:X) (f g:Int):Int:=measured t x.force* (1000 - x.block) / 1000 - (1000+x.form) *f / 1000+(1000+x.form) *g / 1000+x.rough
def EB (t:T) (L:Line) (x:X):Int:=NM t x (Jh L (FO t x.tank)) (Jh L (Hp t x.XO))

structure T.Prod (t:T):Prop where
 p1:0<=t.speed*t.long
 p2:t.speed*t.long<=100000000
 p3:0<=t.speed*t.long*t.alpha
 p4:t.speed*t.long*t.alpha<=1000000000
 p5:0<=t.speed*t.long*t.alpha*t.alpha
 p6:t.speed*t.long*t.alpha*t.alpha<=10000000000
 p7:0<=t.speed*t.long*t.alpha*t.alpha*t.alpha
 p8:t.speed*t.long*t.alpha*t.alpha*t.alpha<=100000000000
 q1:1<=t.ZJ*t.speed
 q2:t.ZJ*t.speed<=10000000000
 q3:1<=t.ZJ*t.speed*t.speed
 q4:t.ZJ*t.speed*t.speed<=100000000000000
theorem T.Ok.prod {t:T}(k:t.Ok):t.Prod:=by
 obtain⟨s1,s2,l1,l2,w1,w2,a1,a2, -⟩:=k
 have p1:0<=t.speed*t.long:=Int.mul_nonneg Al Al
 have p2:t.speed*t.long<=10000*10000:=Int.mul_le_mul s2 l2 Al Al
 have p3:0<=t.speed*t.long*t.alpha:=Int.mul_nonneg Al Al
 have p4:t.speed*t.long*t.alpha<=100000000*10:=Int.mul_le_mul Al a2 Al Al
 have p5:0<=t.speed*t.long*t.alpha*t.alpha:=Int.mul_nonneg Al Al
 have p6:t.speed*t.long*t.alpha*t.alpha<=1000000000*10:=Int.mul_le_mul Al a2 Al Al
 have p7:0<=t.speed*t.long*t.alpha*t.alpha*t.alpha:=Int.mul_nonneg Al Al
 have p8:t.speed*t.long*t.alpha*t.alpha*t.alpha<=10000000000*10:=Int.mul_le_mul Al a2 Al Al
 have q1:1*1<=t.ZJ*t.speed:=Int.mul_le_mul w1 s1 Al Al
 have q2:t.ZJ*t.speed<=1000000*10000:=Int.mul_le_mul w2 s2 Al Al
 have q3:1*1<=t.ZJ*t.speed*t.speed:=Int.mul_le_mul Al s1 Al Al
 have q4:t.ZJ*t.speed*t.speed<=10000000000*10000:=Int.mul_le_mul Al s2 Al Al
 exact⟨p1,by omega,p3,by omega,p5,by omega,p7,by omega,by omega,by omega,by omega,by omega⟩
theorem LP {t:T}(k:t.Ok) {f:Int}(h0:0<=f):0<=measured t f/\measured t f<=1000000000:=by
 have:=k.prod.q3
 have:0<=20000000000*f / (t.ZJ*t.speed*t.speed):=Int.ediv_nonneg Al Al
 unfold measured
 omega


structure X.Bd (x:X):Prop where
 f1:0<=x.force
 f2:x.force<=100000000
 t1:500<=x.tank
 e1:500<=x.XO
 m1:0<=x.form
 m2:x.form<=1000
 b1:0<=x.block
 b2:x.block<=200
 r1:0<=x.rough
 r2:x.rough<=2000
theorem TI.bd {t:T}{x:X}(k:t.Ok) (h:TI t x):x.Bd:=by
 obtain⟨s1,s2,l1,l2,w1,w2,a1,a2,f1,f2,f3,t1,t2,t3,e1,e2,e3,m1,m2,m3,b1,b2,b3,r1,r2,r3⟩:=k
 obtain⟨x1,x2,x3,x4,x5,x6,x7,x8,x9,x10,x11,x12⟩:=h
 constructor<;>omega
structure Parts (t:T) (x:X) (f g:Int):Prop where
 m0:0<=20000000000*x.force / (t.ZJ*t.speed*t.speed)
 m1:0<=measured t x.force
 m2:measured t x.force<=1000000000
 c0:0<=measured t x.force* (1000 - x.block)
 c1:measured t x.force* (1000 - x.block)<=1000000000000
 f0:0<=(1000+x.form) *f
 f1:(1000+x.form) *f<=200000000
 g0:0<=(1000+x.form) *g
 g1:(1000+x.form) *g<=200000000
theorem Yc {t:T}(k:t.Ok) {x:X}(b:x.Bd) {f g:Int}(hf:0<=f/\f<=100000) (hg:0<=g/\g<=100000):Parts t x f g:=by
 obtain⟨b1,b2,b3,b4,b5,b6,b7,b8,b9,b10⟩:=b
 have q3:=k.prod.q3
 have m:=LP k b1
 have c1:measured t x.force* (1000 - x.block)<=1000000000*1000:=Int.mul_le_mul m.2 Al Al Al
 have f1:(1000+x.form) *f<=2000*100000:=Int.mul_le_mul Al hf.2 hf.1 Al
 have g1:(1000+x.form) *g<=2000*100000:=Int.mul_le_mul Al hg.2 hg.1 Al
 exact⟨Int.ediv_nonneg Al Al,m.1,m.2,Int.mul_nonneg m.1 Al,by omega,Int.mul_nonneg Al hf.1,by omega,Int.mul_nonneg Al hg.1,by omega⟩
theorem P4 {t:T}(k:t.Ok) {x:X}(b:x.Bd) {f g:Int}(hf:0<=f/\f<=100000) (hg:0<=g/\g<=100000): -200000<=NM t x f g/\NM t x f g<=1000202000:=by
 obtain⟨m0,m1,m2,c0,c1,f0,f1,g0,g1⟩:=Yc k b hf hg
 obtain⟨b1,b2,b3,b4,b5,b6,b7,b8,b9,b10⟩:=b
 unfold NM
 omega
def both (t:T) (L:Line) (x:X):Prop:=inside L (FO t x.tank)/\inside L (Hp t x.XO)
instance (t:T) (L:Line) (x:X):Decidable (both t L x):=by unfold both;infer_instance
end AE.Drag

/- Walks of drag and its reference: tests. -/
namespace AE.Tryz
open Go AE AE.Drag Go.Proofs
set_option maxRecDepth 100000

set_option maxHeartbeats 1000000 in
theorem Zi {h:H}{t:T}(_:Known t):AW Tryz.prog 123 h.next h [.agg ⟨t.cells⟩] (fun w _=>w= .int .i64 (Gi t)):=by
 refine Aar.call rfl (Nat.le_refl _) ?_
 unfold Aiw
 (focus((try with_reducible apply wpC.to);(repeat'((conv=>whnf);first|refine Ak ?_|((apply Ar);(focus exact Ao);(focus exact AQ);(focus(first|exact Bh|exact Be|exact SR|exact SS));first|((apply Ad)<;>(intro AV _ _ _;first|exact Bool.noConfusion AV|replace AV:=of_decide_eq_true AV|replace AV:=of_decide_eq_false AV|skip)<;>((try simp only[AllOk,Bd.ok,and_true]at AV);first|contradiction|(revert AV;intros)))|((apply Ac)<;>intro _ _ _ _<;>try contradiction)|(apply Ab;intro _ _ _))|(apply Ar;(focus exact Ao);(focus omega);(focus exact Tx);rintro _ ZQ ⟨z_r,wN,Qi,Xt,kR⟩ wM ZP;subst wN;(try simp only[Bv,AY]at Qi);revert ZP wM kR Xt Qi z_r ZQ;intros)|fail));all_goals((conv=>whnf);try with_reducible apply At.mk)))
 ·(refine Au ?_)
  refine AK rfl (Pq ⟨?_,?_,?_,?_,?_,?_,?_,?_,?_,?_,?_,?_,?_,?_,?_,?_,?_,?_,?_,?_,?_,?_,?_,?_,?_,?_⟩).symm<;>omega
 ·(refine Au ?_)
  refine AK rfl (Uw fun k=>?_).symm
  have:=k.s1;have:=k.s2;have:=k.l1;have:=k.l2;have:=k.w1;have:=k.w2;have:=k.a1;have:=k.a2;have:=k.f1;have:=k.f2;have:=k.f3;have:=k.t1;have:=k.t2;have:=k.t3
  have:=k.e1;have:=k.e2;have:=k.e3;have:=k.m1;have:=k.m2;have:=k.m3;have:=k.b1;have:=k.b2;have:=k.b3;have:=k.r1;have:=k.r2;have:=k.r3
  omega
theorem OL {G:Prop}(g:G:=by((apply AW.arg1;(focus(apply Zi;(focus assumption)));(focus exact Is.rfl)))):G:=g
set_option maxHeartbeats 1000000 in
theorem Si {h:H}{t:T}(_:Known t):AW Tryz.prog 21 h.next h [.agg ⟨t.cells⟩] (fun w _=>w= .int .i64 (Gi t)):=by
 refine Agg.call rfl (Nat.le_refl _) ?_
 unfold a21
 (focus((try with_reducible apply wpC.to);(repeat'((conv=>whnf);first|refine Ak ?_|((apply Ar);(focus exact Ao);(focus exact AQ);(focus(first|exact Bh|exact Be|exact nH|exact SU));first|((apply Ad)<;>(intro AV _ _ _;first|exact Bool.noConfusion AV|replace AV:=of_decide_eq_true AV|replace AV:=of_decide_eq_false AV|skip)<;>((try simp only[AllOk,Bd.ok,and_true]at AV);first|contradiction|(revert AV;intros)))|((apply Ac)<;>intro _ _ _ _<;>try contradiction)|(apply Ab;intro _ _ _))|fail));all_goals((conv=>whnf);try with_reducible apply At.mk)))
 all_goals(refine Au ?_)
 all_goals first
  | (refine AK rfl (Uw fun k=>?_).symm
     have:=k.s1;have:=k.s2;have:=k.l1;have:=k.l2;have:=k.w1;have:=k.w2;have:=k.a1;have:=k.a2;have:=k.f1;have:=k.f2;have:=k.f3;have:=k.t1;have:=k.t2;have:=k.t3
     have:=k.e1;have:=k.e2;have:=k.e3;have:=k.m1;have:=k.m2;have:=k.m3;have:=k.b1;have:=k.b2;have:=k.b3;have:=k.r1;have:=k.r2;have:=k.r3
     omega)
  |(refine AK rfl (Pq ⟨?_,?_,?_,?_,?_,?_,?_,?_,?_,?_,?_,?_,?_,?_,?_,?_,?_,?_,?_,?_,?_,?_,?_,?_,?_,?_⟩).symm<;>omega)
theorem DJ {G:Prop}(g:G:=by((apply AW.arg1;(focus(apply Si;(focus assumption)));(focus exact Is.rfl)))):G:=g
end AE.Tryz

/- Walks of drag and its reference: Reynolds numbers, coefficients. -/
namespace AE.Tryz
open Go AE AE.Drag Go.Proofs
set_option maxRecDepth 100000

theorem sR {h:H}{t:T}{w:Int}(k:t.Ok) (hw:500<=w):AW Tryz.prog 218 h.next h [.agg ⟨t.cells⟩,.int .i64 w] (fun v _=>v= .int .i64 (FO t w)):=by
 have p:=k.prod;have:=p.p1;have:=p.p2
 refine zw.call rfl (Nat.le_refl _) ?_
 unfold a218
 (focus((try with_reducible apply wpC.to);(repeat'((conv=>whnf);first|refine Ak ?_|fail));all_goals((conv=>whnf);try with_reducible apply At.mk)))
 all_goals((refine Au ?_);rfl)
theorem xh {h:H}{t:T}{w:Int}(k:t.Ok) (hw:500<=w):AW Tryz.prog 219 h.next h [.agg ⟨t.cells⟩,.int .i64 w] (fun v _=>v= .int .i64 (Hp t w)):=by
 obtain⟨p1,p2,p3,p4,p5,p6,p7,p8,p9⟩:=k.prod
 refine zu.call rfl (Nat.le_refl _) ?_
 unfold Ah1
 (focus((try with_reducible apply wpC.to);(repeat'((conv=>whnf);first|refine Ak ?_|fail));all_goals((conv=>whnf);try with_reducible apply At.mk)))
 all_goals((refine Au ?_);rfl)
theorem YF {G:Prop}(g:G:=by((apply AW.arg1;(focus(apply sR;(focus assumption);(focus omega)));(focus exact Is.rfl)))):G:=g
theorem YE {G:Prop}(g:G:=by((apply AW.arg1;(focus(apply xh;(focus assumption);(focus omega)));(focus exact Is.rfl)))):G:=g
theorem Bj {G:Prop}(g:G:=by((apply AW.arg1;(focus(apply Acv;(focus assumption);(focus omega);(focus omega)));(focus exact Is.rfl)))):G:=g
def Ade (t:T):List Value:=[.int .i64 (FO t t.th),.int .i64 (FO t t.tl),.int .i64 (Hp t t.sh),.int .i64 (Hp t t.sl)]
theorem aG {h:H}{t:T}(k:t.Ok):AW Tryz.prog 214 h.next h [.agg ⟨t.cells⟩] (fun v _=>v= .agg ⟨Ade t⟩):=by
 have:=k.t1;have:=k.t2;have:=k.e1;have:=k.e2
 refine zB.call rfl (Nat.le_refl _) ?_
 unfold Ah5
 (focus((try with_reducible apply wpC.to);(repeat'((conv=>whnf);first|refine Ak ?_|((apply Ar);(focus exact Ao);(focus exact AQ);(focus(first|exact Bj|exact YE|exact YF|exact Bh|exact Be));first|((apply Ad)<;>(intro AV _ _ _;first|exact Bool.noConfusion AV|replace AV:=of_decide_eq_true AV|replace AV:=of_decide_eq_false AV|skip)<;>((try simp only[AllOk,Bd.ok,and_true]at AV);first|contradiction|(revert AV;intros)))|((apply Ac)<;>intro _ _ _ _<;>try contradiction)|(apply Ab;intro _ _ _))|fail));all_goals((conv=>whnf);try with_reducible apply At.mk)))
 all_goals((refine Au ?_);rfl)
theorem nC {G:Prop}(g:G:=by((apply AW.arg1;(focus(apply aG;(focus assumption)));(focus exact Is.rfl)))):G:=g
theorem Bo {G:Prop}(g:G:=by((apply AW.arg1;(focus(apply qK;(focus assumption);(focus omega);(focus omega)));(focus exact Is.rfl)))):G:=g
theorem Bn {G:Prop}(g:G:=by((apply AW.wF;(focus(apply Ad8;(focus assumption);(focus assumption)));(focus exact Is.rfl);(focus exact Is.rfl)))):G:=g
theorem uG {h:H}{L:Line}{x:X}{m rx rf:Nat}{re:Int}(hm:m<=h.next) (hL:L.Ok m h) (v:Valid L) (hb:x.Bd) (hin:inside L re) (hx:h.get rx=some (.cells x.cells 139)) (hf:h.get rf=some (.cells [.func (.func 216) ⟨[.agg ⟨L.cells⟩]⟩ ⟨[]⟩] 215)):
 AW Tryz.prog 217 h.next h [.int .i64 re,.pointer (some ⟨rx,0,none⟩),.pointer (some ⟨rf,0,none⟩)] (fun w _=>w= .int .i64 ((1000+x.form) *Jh L re / 1000)):=by
 have f:=GR v hin
 obtain⟨b1,b2,b3,b4,b5,b6,b7,b8,b9,b10⟩:=hb
 have f1:(1000+x.form) *Jh L re<=2000*100000:=Int.mul_le_mul Al f.2 f.1 Al
 have f0:0<=(1000+x.form) *Jh L re:=Int.mul_nonneg Al f.1
 unfold X.cells at hx
 refine zx.call rfl (Nat.le_refl _) ?_
 unfold Ah2
 (focus((try with_reducible apply wpC.to);(repeat'((conv=>whnf);first|refine Ak ?_|((apply Ar);(focus exact Ao);(focus exact AQ);(focus(first|exact Bn|exact Bo|exact Bj|exact Bh|exact Ki|exact Be));first|((apply Ad)<;>(intro AV _ _ _;first|exact Bool.noConfusion AV|replace AV:=of_decide_eq_true AV|replace AV:=of_decide_eq_false AV|skip)<;>((try simp only[AllOk,Bd.ok,and_true]at AV);first|contradiction|(revert AV;intros)))|((apply Ac)<;>intro _ _ _ _<;>try contradiction)|(apply Ab;intro _ _ _))|fail));all_goals((conv=>whnf);try with_reducible apply At.mk)))
 all_goals((refine Au ?_);rfl)
end AE.Tryz

/- Walks of drag and its reference: the coefficient of a ship. -/
namespace AE.Tryz
open Go AE AE.Drag Go.Proofs
set_option maxRecDepth 100000
theorem LU {G:Prop}(g:G:=by((apply uG;rotate_left;(focus(apply Line.Ok.same;(focus assumption);(focus exact Aq);(focus exact Nat.le_refl _)));(focus assumption);(focus assumption);(focus assumption);(focus exact Aa);(focus exact Aa);(focus exact Ah)))):G:=g
set_option maxHeartbeats 1000000 in
theorem Abu {h:H}{t:T}{L:Line}{x:X}{m:Nat}(hm:m<=h.next) (k:t.Ok) (hL:L.Ok m h) (v:Valid L) (hb:x.Bd) (i1:inside L (FO t x.tank)) (i2:inside L (Hp t x.XO)):
 AW Tryz.prog 128 h.next h [.agg ⟨t.cells⟩,.agg ⟨L.cells⟩,.agg ⟨x.cells⟩] (fun w _=>w= .int .i64 (EB t L x)):=by
 obtain⟨p1,p2,p3,p4,p5,p6,p7,p8,q1,q2,q3,q4⟩:=k.prod
 have hb':=hb
 obtain⟨b1,b2,b3,b4,b5,b6,b7,b8,b9,b10⟩:=hb'
 obtain⟨m0,m1,m2,c0,c1,f0,f1,g0,g1⟩:=Yc k hb (GR v i1) (GR v i2)
 unfold measured at m1 m2 c0 c1
 refine Aam.call rfl (Nat.le_refl _) ?_
 unfold Ait
 (focus((try with_reducible apply wpC.to);(repeat'((conv=>whnf);first|refine Ak ?_|((apply Ar);(focus exact Ao);(focus exact AQ);(focus(first|exact LU|exact Bn|exact Bo|exact Bj|exact YE|exact YF|exact Bh|exact Ki|exact Be));first|((apply Ad)<;>(intro AV _ _ _;first|exact Bool.noConfusion AV|replace AV:=of_decide_eq_true AV|replace AV:=of_decide_eq_false AV|skip)<;>((try simp only[AllOk,Bd.ok,and_true]at AV);first|contradiction|(revert AV;intros)))|((apply Ac)<;>intro _ _ _ _<;>try contradiction)|(apply Ab;intro _ _ _))|fail));all_goals((conv=>whnf);try with_reducible apply At.mk)))
 all_goals((refine Au ?_);rfl)
theorem Eb {G:Prop}(g:G:=by((apply AW.qo;(focus(apply Abu;rotate_left;(focus assumption);(focus(apply Line.Ok.same;(focus assumption);(focus exact Aq);(focus exact Nat.le_refl _)));(focus assumption);(focus assumption);(focus assumption);(focus assumption);(focus exact Ah)));(focus exact Is.rfl);(focus exact Is.rfl);(focus exact Is.rfl)))):G:=g
theorem Bp {G:Prop}(g:G:=by((apply AW.qo;(focus(apply Acs;rotate_left;(focus assumption);(focus(apply Line.Ok.same;(focus assumption);(focus exact Aq);(focus exact Nat.le_refl _)));(focus assumption);(focus assumption);(focus exact Ah)));(focus exact Is.rfl);(focus exact Is.rfl);(focus exact Is.rfl)))):G:=g
end AE.Tryz

/- What drag computes, in plain words: lines of a contract. -/
namespace AE.Drag
open Go AE

structure Lines where
 k:Nat
 ln:Nat->Line
 b:Option Addr
 a:Addr
 c:Nat
def Lines.val (S:Lines):Value:=.slice S.b S.k S.c
structure Lines.Ok (S:Lines) (m:Nat) (h:H):Prop where
 e:0<S.k->S.b=some S.a
 i:JP h S.a S.k 2 (fun i=>(S.ln i).cells)
 r:0<S.k->S.a.block<m
 ok:∀i,i<S.k->(S.ln i).Ok m h
 l:S.k<=9223372036854775807
theorem Lines.Ok.same {S:Lines}{m m':Nat}{h h':H}(k:S.Ok m h) (s:Same m h h') (hm:m<=m'):S.Ok m' h':=
 ⟨k.e,k.i.same s k.r,fun h=>by have:=k.r h;omega,fun i hi=>(k.ok i hi).same s hm,k.l⟩

structure Lines.Flat (S:Lines):Prop where
 s:0<S.k->S.a.spot=none
 c:S.k<=S.c
 f:0<S.k->S.c<far
def GV (f:Nat->Int):Nat->Int
 |0=>0
 |n+1=>if GV f n≠0 then GV f n else f n
theorem HJ {f:Nat->Int}:∀{n:Nat},(∀j,j<n->f j=0)->GV f n=0
 |0,_=>rfl
 | n+1,h=>by
   unfold GV
   rw[HJ (fun j hj=>h j Al)]
   simp[h n Al]
theorem Qw {f:Nat->Int}{i:Nat}(h0:∀j,j<i->f j=0) (hi:f i≠0):∀{n:Nat},i<n->GV f n=f i
 |0,h=>by omega
 | n+1,h=>by
   unfold GV
   by_cases e:i=n
   ·subst e;rw[HJ h0];simp
   ·rw[Qw h0 hi (n:=n) Al];simp[hi]
theorem OU {f:Nat->Int}:∀{n:Nat},GV f n=0->∀j,j<n->f j=0
 |0,_,j,hj=>by omega
 | n+1,h,j,hj=>by
   unfold GV at h
   split at h
   ·omega
   ·rename_i h1
    by_cases e:j=n
    ·subst e;exact h
    ·exact OU (n:=n) Al j Al

noncomputable def HN (S:Lines):Int:=if S.k<1\/4<S.k then 6 else GV (fun i=>Eg (S.ln i)) S.k
structure Lines.Valid (S:Lines):Prop where
 lo:1<=S.k
 hi:S.k<=4
 v:∀i,i<S.k->AE.Drag.Valid (S.ln i)
theorem GK {S:Lines}:HN S=0↔S.Valid:=by
 unfold HN
 constructor
 ·intro h
  split at h
  ·omega
  ·rename_i h1
   exact⟨by omega,by omega,fun i hi=>HI.1 (OU h i hi)⟩
 ·intro h
  have:=h.lo;have:=h.hi
  rw[if_neg Al]
  exact HJ fun j hj=>HI.2 (h.v j hj)

def reckons (t:T) (L:Line):Prop:=(L.re 0<=FO t t.th/\FO t t.tl<=L.re (L.n - 1))/\L.re 0<=Hp t t.sh/\Hp t t.sl<=L.re (L.n - 1)
instance (t:T) (L:Line):Decidable (reckons t L):=by unfold reckons;infer_instance
def Jn (t:T) (S:Lines):Prop:=∀i,i<S.k->reckons t (S.ln i)
noncomputable instance (t:T) (S:Lines):Decidable (Jn t S):=Classical.propDecidable _

theorem IG {a b c:Int}(ha:0<=a) (hb:0<b) (h:b<=c):a / c<=a / b:=by
 apply Int.le_ediv_of_mul_le hb
 have h1:0<=a / c:=Int.ediv_nonneg ha Al
 have h2:a / c*b<=a / c*c:=Int.mul_le_mul_of_nonneg_left h h1
 have h3:a / c*c<=a:=Int.ediv_mul_le a Al
 omega
theorem Xc {t:T}(k:t.Ok) {L:Line}(r:reckons t L) {x:X}(h1:t.tl<=x.tank) (h2:x.tank<=t.th) (h3:t.sl<=x.XO) (h4:x.XO<=t.sh):both t L x:=by
 have:=k.t1;have:=k.t2;have:=k.e1;have:=k.e2
 obtain⟨p1,p2,p3,p4,p5,p6,p7,p8,p9⟩:=k.prod
 obtain⟨⟨r1,r2⟩,r3,r4⟩:=r
 have a1:=IG p1 (by omega:0<x.tank) h2
 have a2:=IG p1 (by omega:0<t.tl) h1
 have a3:=IG p7 (by omega:0<x.XO) h4
 have a4:=IG p7 (by omega:0<t.sl) h3
 unfold both inside
 unfold FO Hp at*
 omega


def Ey (t:T) (m:Int):X:=⟨t.fl,t.th,t.sl,m,t.bh,t.rl⟩
def CZ (t:T) (m:Int):X:=⟨t.fh,t.tl,t.sh,m,t.bl,t.rh⟩
def vj (t:T) (S:Lines) (c:Int):Prop:=∃i,i<S.k/\∃m,t.ml<=m/\m<=t.mh/\c=EB t (S.ln i) (Ey t m)
def gG (t:T) (S:Lines) (c:Int):Prop:=∃i,i<S.k/\∃m,t.ml<=m/\m<=t.mh/\c=EB t (S.ln i) (CZ t m)
def TJ (P:Int->Prop) (v:Int):Prop:=P v/\∀w,P w->v<=w
def Vx (P:Int->Prop) (v:Int):Prop:=P v/\∀w,P w->w<=v
open Classical in
noncomputable def Z3 (P:Int->Prop):Int:=if h:∃v,TJ P v then h.choose else 0
open Classical in
noncomputable def Z4 (P:Int->Prop):Int:=if h:∃v,Vx P v then h.choose else 0
theorem Uu {P:Int->Prop}{v:Int}(h:TJ P v):Z3 P=v:=by
 unfold Z3
 have hx:∃v,TJ P v:=⟨v,h⟩
 rw[dif_pos hx]
 have h1:=hx.choose_spec
 have a:=h1.2 _ h.1
 have b:=h.2 _ h1.1
 omega
theorem Uv {P:Int->Prop}{v:Int}(h:Vx P v):Z4 P=v:=by
 unfold Z4
 have hx:∃v,Vx P v:=⟨v,h⟩
 rw[dif_pos hx]
 have h1:=hx.choose_spec
 have a:=h1.2 _ h.1
 have b:=h.2 _ h1.1
 omega
noncomputable def IU (t:T) (S:Lines):Int:=Z3 (vj t S)
noncomputable def IV (t:T) (S:Lines):Int:=Z4 (gG t S)
noncomputable def FM (t:T) (S:Lines):Int:=if Gi t≠0 then Gi t else if HN S≠0 then HN S else if Jn t S then 0 else 19
structure Jp (t:T) (S:Lines):Prop where
 tk:t.Ok
 sv:S.Valid
 r:Jn t S
theorem KC {t:T}{S:Lines}:FM t S=0↔Jp t S:=by
 unfold FM
 constructor
 ·intro h
  split at h
  ·omega
  ·split at h
   ·omega
   ·split at h
    ·rename_i h1 h2 h3
     exact⟨KA.1 Al,GK.1 Al,h3⟩
    ·omega
 ·rintro⟨h1,h2,h3⟩
  rw[if_neg (by rw[Pq h1];omega),if_neg (by rw[GK.2 h2];omega),if_pos h3]
end AE.Drag

/- Walks of drag and its reference: lines of a contract. -/
namespace AE.Tryz
open Go AE AE.Drag Go.Proofs
set_option maxRecDepth 100000

set_option maxHeartbeats 1000000 in
theorem Xa {h:H}{S:Lines}{m:Nat}(hm:m<=h.next) (hS:S.Ok m h):AW Tryz.prog 124 h.next h [.slice S.b S.k S.c] (fun w _=>w= .int .i64 (HN S)):=by
 obtain⟨e1,i1,r1,ok,l1⟩:=hS
 refine Aaq.call rfl (Nat.le_refl _) ?_
 unfold a124 HN
 by_cases hk:S.k<1\/4<S.k
 ·rw[if_pos hk]
  (focus((try with_reducible apply wpC.to);(repeat'((conv=>whnf);first|refine Ak ?_|(apply Fork.mk<;>(intro _;try(exfalso;omega)))|((apply Ar);(focus exact Ao);(focus exact AQ);(focus(first|exact Bp|exact Bn|exact Bo|exact Bj|exact Bh|exact Be|exact LV));first|((apply Ad)<;>(intro AV _ _ _;first|exact Bool.noConfusion AV|replace AV:=of_decide_eq_true AV|replace AV:=of_decide_eq_false AV|skip)<;>((try simp only[AllOk,Bd.ok,and_true]at AV);first|contradiction|(revert AV;intros)))|((apply Ac)<;>intro _ _ _ _<;>try contradiction)|(apply Ab;intro _ _ _))|fail));all_goals((conv=>whnf);try with_reducible apply At.mk)))
  all_goals((refine Au ?_);rfl)
 rw[if_neg hk]
 (focus((try with_reducible apply wpC.to);(repeat'((conv=>whnf);first|refine Ak ?_|(apply Fork.mk<;>(intro _;try(exfalso;omega)))|((apply Ar);(focus exact Ao);(focus exact AQ);(focus(first|exact Bp|exact Bn|exact Bo|exact Bj|exact Bh|exact Be|exact LV));first|((apply Ad)<;>(intro AV _ _ _;first|exact Bool.noConfusion AV|replace AV:=of_decide_eq_true AV|replace AV:=of_decide_eq_false AV|skip)<;>((try simp only[AllOk,Bd.ok,and_true]at AV);first|contradiction|(revert AV;intros)))|((apply Ac)<;>intro _ _ _ _<;>try contradiction)|(apply Ab;intro _ _ _))|fail));all_goals((conv=>whnf);try with_reducible apply At.mk)))
 refine wp_loop (fun s:Nat=>[(14,.slice S.b S.k S.c),(15,.int .i64 S.k),(16,.int .i64 s)])
  (fun s h1=>Same h.next h h1/\h.next<=h1.next/\s<=S.k/\∀j,j<s->Eg (S.ln j)=0) (fun s=>S.k - s) 0 ⟨rfl,rfl,rfl,trivial⟩ ⟨Aq,Ah,by omega,fun j hj=>by omega⟩ ?_
 rintro s g h1 ⟨q,hn1,hs,hz⟩ K hK
 by_cases hsk:s<S.k
 ·have hL:=ok s hsk
  by_cases he:Eg (S.ln s)=0
  ·(focus((try with_reducible apply wpC.to);(repeat'((conv=>whnf);first|refine Ak ?_|(apply Fork.mk<;>(intro _;try(exfalso;omega)))|((apply Ar);(focus exact Ao);(focus exact AQ);(focus(first|exact Bp|exact Bn|exact Bo|exact Bj|exact Bh|exact Be|exact LV));first|((apply Ad)<;>(intro AV _ _ _;first|exact Bool.noConfusion AV|replace AV:=of_decide_eq_true AV|replace AV:=of_decide_eq_false AV|skip)<;>((try simp only[AllOk,Bd.ok,and_true]at AV);first|contradiction|(revert AV;intros)))|((apply Ac)<;>intro _ _ _ _<;>try contradiction)|(apply Ab;intro _ _ _))|fail));all_goals((conv=>whnf);try with_reducible apply At.mk)))
   refine hK (s+1) _ _ ⟨rfl,rfl,AK rfl Al,trivial⟩ ⟨Aq,Ah,by omega,fun j hj=>?_⟩ Al
   by_cases e:j=s
   ·subst e;exact he
   ·exact hz j Al
  ·(focus((try with_reducible apply wpC.to);(repeat'((conv=>whnf);first|refine Ak ?_|(apply Fork.mk<;>(intro _;try(exfalso;omega)))|((apply Ar);(focus exact Ao);(focus exact AQ);(focus(first|exact Bp|exact Bn|exact Bo|exact Bj|exact Bh|exact Be|exact LV));first|((apply Ad)<;>(intro AV _ _ _;first|exact Bool.noConfusion AV|replace AV:=of_decide_eq_true AV|replace AV:=of_decide_eq_false AV|skip)<;>((try simp only[AllOk,Bd.ok,and_true]at AV);first|contradiction|(revert AV;intros)))|((apply Ac)<;>intro _ _ _ _<;>try contradiction)|(apply Ab;intro _ _ _))|fail));all_goals((conv=>whnf);try with_reducible apply At.mk)))
   (refine Au ?_)
   rw[Qw (f:=fun i=>Eg (S.ln i)) hz he hsk]
 ·have:s=S.k:=by omega
  subst this
  (focus((try with_reducible apply wpC.to);(repeat'((conv=>whnf);first|refine Ak ?_|(apply Fork.mk<;>(intro _;try(exfalso;omega)))|((apply Ar);(focus exact Ao);(focus exact AQ);(focus(first|exact Bp|exact Bn|exact Bo|exact Bj|exact Bh|exact Be|exact LV));first|((apply Ad)<;>(intro AV _ _ _;first|exact Bool.noConfusion AV|replace AV:=of_decide_eq_true AV|replace AV:=of_decide_eq_false AV|skip)<;>((try simp only[AllOk,Bd.ok,and_true]at AV);first|contradiction|(revert AV;intros)))|((apply Ac)<;>intro _ _ _ _<;>try contradiction)|(apply Ab;intro _ _ _))|fail));all_goals((conv=>whnf);try with_reducible apply At.mk)))
  (refine Au ?_)
  rw[HJ (f:=fun i=>Eg (S.ln i)) hz]
theorem OJ {G:Prop}(g:G:=by((apply Xa;rotate_left;(focus(apply Lines.Ok.same;(focus assumption);(focus exact Aq);(focus exact Nat.le_refl _)));(focus exact Ah)))):G:=g
theorem Bz {G:Prop}(g:G:=by((apply xp;rotate_left;(focus(apply Lines.Ok.same;(focus assumption);(focus exact Aq);(focus exact Nat.le_refl _)));(focus exact Ah)))):G:=g
theorem iO {h:H}{t:T}{L:Line}{m:Nat}(hm:m<=h.next) (k:t.Ok) (hL:L.Ok m h) (v:Valid L):AW Tryz.prog 127 h.next h [.agg ⟨t.cells⟩,.agg ⟨L.cells⟩] (fun w _=>w= .bool (decide (reckons t L))):=by
 have hlo:=v.lo
 refine Aan.call rfl (Nat.le_refl _) ?_
 unfold a127 reckons
 (focus((try with_reducible apply wpC.to);(repeat'((conv=>whnf);first|refine Ak ?_|((apply Ar);(focus exact Ao);(focus exact AQ);(focus(first|exact Bz|exact Bp|exact Bn|exact Bo|exact nC|exact Bj|exact Bh|exact Be|exact nD));first|((apply Ad)<;>(intro AV _ _ _;first|exact Bool.noConfusion AV|replace AV:=of_decide_eq_true AV|replace AV:=of_decide_eq_false AV|skip)<;>((try simp only[AllOk,Bd.ok,and_true]at AV);first|contradiction|(revert AV;intros)))|((apply Ac)<;>intro _ _ _ _<;>try contradiction)|(apply Ab;intro _ _ _))|fail));all_goals((conv=>whnf);try with_reducible apply At.mk)))
 all_goals((refine Au ?_);first|exact CI rfl Al|exact Ch rfl Al)
theorem nB {G:Prop}(g:G:=by((apply AW.wF;(focus(apply iO;rotate_left;(focus assumption);(focus(apply Line.Ok.same;(focus assumption);(focus exact Aq);(focus exact Nat.le_refl _)));(focus assumption);(focus exact Ah)));(focus exact Is.rfl);(focus exact Is.rfl)))):G:=g
theorem Wj {h:H}{t:T}{L:Line}{m r:Nat}(hm:m<=h.next) (k:t.Ok) (hL:L.Ok m h) (v:Valid L) (hr:r<h.next) (hg:h.get r=some (.cells t.cells 135)):AW Tryz.prog 126 h.next h [.agg ⟨L.cells⟩,.pointer (some ⟨r,0,none⟩)] (fun w _=>w= .bool (decide (¬reckons t L))):=by
 unfold T.cells at hg
 refine Aao.call rfl (Nat.le_refl _) ?_
 unfold Aiu
 (focus((try with_reducible apply wpC.to);(repeat'((conv=>whnf);first|refine Ak ?_|((apply Ar);(focus exact Ao);(focus exact AQ);(focus(first|exact nB|exact Bz|exact Bp|exact Bn|exact Bo|exact Bj|exact Bh|exact Be));first|((apply Ad)<;>(intro AV _ _ _;first|exact Bool.noConfusion AV|replace AV:=of_decide_eq_true AV|replace AV:=of_decide_eq_false AV|skip)<;>((try simp only[AllOk,Bd.ok,and_true]at AV);first|contradiction|(revert AV;intros)))|((apply Ac)<;>intro _ _ _ _<;>try contradiction)|(apply Ab;intro _ _ _))|fail));all_goals((conv=>whnf);try with_reducible apply At.mk)))
 all_goals((refine Au ?_);first|exact CI rfl (by assumption)|exact Ch rfl (fun c=>c (by assumption)))
theorem HP {G:Prop}(g:G:=by((apply AW.arg1;(focus(apply Wj;rotate_left;(focus assumption);(focus(apply Line.Ok.same;(focus assumption);(focus exact Aq);(focus exact Nat.le_refl _)));(focus assumption);(focus exact Ah);(focus exact Aa);(focus exact Ah)));(focus exact Is.rfl)))):G:=g
theorem tI {h:H}{t:T}{S:Lines}{m r:Nat}(hm:m<=h.next) (k:t.Ok) (hS:S.Ok m h) (v:S.Valid) (hr:r<h.next) (hg:h.get r=some (.cells t.cells 135)):AW Tryz.prog 213 h.next h [.slice S.b S.k S.c,.func (.func 126) ⟨[]⟩ ⟨[.pointer (some ⟨r,0,none⟩)]⟩] (fun w _=>∃z:Int,w= .int .i64 z/\(0<=z↔¬Jn t S)):=by
 obtain⟨e1,i1,r1,ok,l1⟩:=hS
 refine zC.call rfl (Nat.le_refl _) ?_
 unfold a213
 (focus((try with_reducible apply wpC.to);(repeat'((conv=>whnf);first|refine Ak ?_|(apply Fork.mk<;>(intro _;try(exfalso;omega)))|((apply Ar);(focus exact Ao);(focus exact AQ);(focus(first|exact HP|exact Bz|exact Bp|exact LU|exact Bn|exact Bo|exact Bj|exact Bh|exact Ki|exact Be));first|((apply Ad)<;>(intro AV _ _ _;first|exact Bool.noConfusion AV|replace AV:=of_decide_eq_true AV|replace AV:=of_decide_eq_false AV|skip)<;>((try simp only[AllOk,Bd.ok,and_true]at AV);first|contradiction|(revert AV;intros)))|((apply Ac)<;>intro _ _ _ _<;>try contradiction)|(apply Ab;intro _ _ _))|fail));all_goals((conv=>whnf);try with_reducible apply At.mk)))
 refine wp_loop (fun s:Nat=>[(0,.slice S.b S.k S.c),(1,.func (.func 126) ⟨[]⟩ ⟨[.pointer (some ⟨r,0,none⟩)]⟩),(7,.int .i64 S.k),(8,.int .i64 s)])
  (fun s h1=>Same h.next h h1/\h.next<=h1.next/\s<=S.k/\∀j,j<s->reckons t (S.ln j)) (fun s=>S.k - s) 0 ⟨rfl,rfl,rfl,rfl,trivial⟩ ⟨Aq,Ah,by omega,fun j hj=>by omega⟩ ?_
 rintro s g h1 ⟨q,hn1,hs,hz⟩ K hK
 by_cases hsk:s<S.k
 ·have hL:=ok s hsk
  have hv:=v.v s hsk
  by_cases he:reckons t (S.ln s)
  ·(focus((try with_reducible apply wpC.to);(repeat'((conv=>whnf);first|refine Ak ?_|(apply Fork.mk<;>(intro _;try(exfalso;omega)))|((apply Ar);(focus exact Ao);(focus exact AQ);(focus(first|exact HP|exact Bz|exact Bp|exact LU|exact Bn|exact Bo|exact Bj|exact Bh|exact Ki|exact Be));first|((apply Ad)<;>(intro AV _ _ _;first|exact Bool.noConfusion AV|replace AV:=of_decide_eq_true AV|replace AV:=of_decide_eq_false AV|skip)<;>((try simp only[AllOk,Bd.ok,and_true]at AV);first|contradiction|(revert AV;intros)))|((apply Ac)<;>intro _ _ _ _<;>try contradiction)|(apply Ab;intro _ _ _))|fail));all_goals((conv=>whnf);try with_reducible apply At.mk)))
   refine hK (s+1) _ _ ⟨rfl,rfl,rfl,AK rfl Al,trivial⟩ ⟨Aq,Ah,by omega,fun j hj=>?_⟩ Al
   by_cases e:j=s
   ·subst e;exact he
   ·exact hz j Al
  ·(focus((try with_reducible apply wpC.to);(repeat'((conv=>whnf);first|refine Ak ?_|(apply Fork.mk<;>(intro _;try(exfalso;omega)))|((apply Ar);(focus exact Ao);(focus exact AQ);(focus(first|exact HP|exact Bz|exact Bp|exact LU|exact Bn|exact Bo|exact Bj|exact Bh|exact Ki|exact Be));first|((apply Ad)<;>(intro AV _ _ _;first|exact Bool.noConfusion AV|replace AV:=of_decide_eq_true AV|replace AV:=of_decide_eq_false AV|skip)<;>((try simp only[AllOk,Bd.ok,and_true]at AV);first|contradiction|(revert AV;intros)))|((apply Ac)<;>intro _ _ _ _<;>try contradiction)|(apply Ab;intro _ _ _))|fail));all_goals((conv=>whnf);try with_reducible apply At.mk)))
   (refine Au ?_)
   exact⟨_,rfl,by simp;exact fun c=>he (c s hsk)⟩
 ·have:s=S.k:=by omega
  subst this
  (focus((try with_reducible apply wpC.to);(repeat'((conv=>whnf);first|refine Ak ?_|(apply Fork.mk<;>(intro _;try(exfalso;omega)))|((apply Ar);(focus exact Ao);(focus exact AQ);(focus(first|exact HP|exact Bz|exact Bp|exact LU|exact Bn|exact Bo|exact Bj|exact Bh|exact Ki|exact Be));first|((apply Ad)<;>(intro AV _ _ _;first|exact Bool.noConfusion AV|replace AV:=of_decide_eq_true AV|replace AV:=of_decide_eq_false AV|skip)<;>((try simp only[AllOk,Bd.ok,and_true]at AV);first|contradiction|(revert AV;intros)))|((apply Ac)<;>intro _ _ _ _<;>try contradiction)|(apply Ab;intro _ _ _))|fail));all_goals((conv=>whnf);try with_reducible apply At.mk)))
  (refine Au ?_)
  exact⟨_,rfl,by simp;exact hz⟩
theorem cH {h:H}{t:T}{S:Lines}{m r:Nat}(hm:m<=h.next) (k:t.Ok) (hS:S.Ok m h) (v:S.Valid) (hr:r<h.next) (hg:h.get r=some (.cells t.cells 135)):AW Tryz.prog 125 h.next h [.slice S.b S.k S.c,.func (.func 126) ⟨[]⟩ ⟨[.pointer (some ⟨r,0,none⟩)]⟩] (fun w _=>w= .bool (decide (¬Jn t S))):=by
 refine Aap.call rfl (Nat.le_refl _) ?_
 unfold Aiv
 (focus((try with_reducible apply wpC.to);(repeat'((conv=>whnf);first|refine Ak ?_|(apply Fork.mk<;>(intro _;try(exfalso;omega)))|((apply Ar);(focus exact Ao);(focus exact AQ);(focus(first|exact Bz|exact Bp|exact Bn|exact Bo|exact Bj|exact Bh|exact Be));first|((apply Ad)<;>(intro AV _ _ _;first|exact Bool.noConfusion AV|replace AV:=of_decide_eq_true AV|replace AV:=of_decide_eq_false AV|skip)<;>((try simp only[AllOk,Bd.ok,and_true]at AV);first|contradiction|(revert AV;intros)))|((apply Ac)<;>intro _ _ _ _<;>try contradiction)|(apply Ab;intro _ _ _))|fail));all_goals((conv=>whnf);try with_reducible apply At.mk)))
 apply Ar
 focus(exact Ao)
 focus omega
 focus exact tI (m:=m) Ah k (hS.same Aq (Nat.le_refl _)) v Ah Aa
 rintro _ h1 ⟨z,e,hz⟩ q hn
 subst e
 (focus((try with_reducible apply wpC.to);(repeat'((conv=>whnf);first|refine Ak ?_|(apply Fork.mk<;>(intro _;try(exfalso;omega)))|((apply Ar);(focus exact Ao);(focus exact AQ);(focus(first|exact Bz|exact Bp|exact Bn|exact Bo|exact Bj|exact Bh|exact Be));first|((apply Ad)<;>(intro AV _ _ _;first|exact Bool.noConfusion AV|replace AV:=of_decide_eq_true AV|replace AV:=of_decide_eq_false AV|skip)<;>((try simp only[AllOk,Bd.ok,and_true]at AV);first|contradiction|(revert AV;intros)))|((apply Ac)<;>intro _ _ _ _<;>try contradiction)|(apply Ab;intro _ _ _))|fail));all_goals((conv=>whnf);try with_reducible apply At.mk)))
 all_goals(refine Au ?_)
 ·exact CI rfl (hz.1 Al)
 ·exact Ch rfl (fun c=>by have:=hz.2 c;omega)
theorem OI {G:Prop}(g:G:=by((apply cH;rotate_left;(focus assumption);(focus(apply Lines.Ok.same;(focus assumption);(focus exact Aq);(focus exact Nat.le_refl _)));(focus assumption);(focus exact Ah);(focus exact Aa);(focus exact Ah)))):G:=g
theorem mq {h:H}{t:T}{S:Lines}{m:Nat}(hm:m<=h.next) (kn:Known t) (hS:S.Ok m h):AW Tryz.prog 61 h.next h [.agg ⟨t.cells⟩,.slice S.b S.k S.c] (fun w _=>w= .tuple #[.agg ⟨t.cells⟩,.int .i64 (FM t S)]):=by
 refine Afg.call rfl (Nat.le_refl _) ?_
 unfold a61 FM
 by_cases he:Gi t≠0
 ·rw[if_pos he]
  (focus((try with_reducible apply wpC.to);(repeat'((conv=>whnf);first|refine Ak ?_|(apply Fork.mk<;>(intro _;try(exfalso;omega)))|((apply Ar);(focus exact Ao);(focus exact AQ);(focus(first|exact OI|exact HP|exact Bz|exact OJ|exact Bp|exact Bn|exact Bo|exact Bj|exact OL|exact Bh|exact Be));first|((apply Ad)<;>(intro AV _ _ _;first|exact Bool.noConfusion AV|replace AV:=of_decide_eq_true AV|replace AV:=of_decide_eq_false AV|skip)<;>((try simp only[AllOk,Bd.ok,and_true]at AV);first|contradiction|(revert AV;intros)))|((apply Ac)<;>intro _ _ _ _<;>try contradiction)|(apply Ab;intro _ _ _))|fail));all_goals((conv=>whnf);try with_reducible apply At.mk)))
  all_goals((refine Au ?_);rfl)
 rw[if_neg he]
 have k:=KA.1 (by omega:Gi t=0)
 by_cases hl:HN S≠0
 ·rw[if_pos hl]
  (focus((try with_reducible apply wpC.to);(repeat'((conv=>whnf);first|refine Ak ?_|(apply Fork.mk<;>(intro _;try(exfalso;omega)))|((apply Ar);(focus exact Ao);(focus exact AQ);(focus(first|exact OI|exact HP|exact Bz|exact OJ|exact Bp|exact Bn|exact Bo|exact Bj|exact OL|exact Bh|exact Be));first|((apply Ad)<;>(intro AV _ _ _;first|exact Bool.noConfusion AV|replace AV:=of_decide_eq_true AV|replace AV:=of_decide_eq_false AV|skip)<;>((try simp only[AllOk,Bd.ok,and_true]at AV);first|contradiction|(revert AV;intros)))|((apply Ac)<;>intro _ _ _ _<;>try contradiction)|(apply Ab;intro _ _ _))|fail));all_goals((conv=>whnf);try with_reducible apply At.mk)))
  all_goals((refine Au ?_);rfl)
 rw[if_neg hl]
 have v:=GK.1 (by omega:HN S=0)
 by_cases hr:Jn t S
 ·rw[if_pos hr]
  (focus((try with_reducible apply wpC.to);(repeat'((conv=>whnf);first|refine Ak ?_|(apply Fork.mk<;>(intro _;try(exfalso;omega)))|((apply Ar);(focus exact Ao);(focus exact AQ);(focus(first|exact OI|exact HP|exact Bz|exact OJ|exact Bp|exact Bn|exact Bo|exact Bj|exact OL|exact Bh|exact Be));first|((apply Ad)<;>(intro AV _ _ _;first|exact Bool.noConfusion AV|replace AV:=of_decide_eq_true AV|replace AV:=of_decide_eq_false AV|skip)<;>((try simp only[AllOk,Bd.ok,and_true]at AV);first|contradiction|(revert AV;intros)))|((apply Ac)<;>intro _ _ _ _<;>try contradiction)|(apply Ab;intro _ _ _))|fail));all_goals((conv=>whnf);try with_reducible apply At.mk)))
  all_goals first
   |contradiction
   |((refine Au ?_);rfl)
 ·rw[if_neg hr]
  (focus((try with_reducible apply wpC.to);(repeat'((conv=>whnf);first|refine Ak ?_|(apply Fork.mk<;>(intro _;try(exfalso;omega)))|((apply Ar);(focus exact Ao);(focus exact AQ);(focus(first|exact OI|exact HP|exact Bz|exact OJ|exact Bp|exact Bn|exact Bo|exact Bj|exact OL|exact Bh|exact Be));first|((apply Ad)<;>(intro AV _ _ _;first|exact Bool.noConfusion AV|replace AV:=of_decide_eq_true AV|replace AV:=of_decide_eq_false AV|skip)<;>((try simp only[AllOk,Bd.ok,and_true]at AV);first|contradiction|(revert AV;intros)))|((apply Ac)<;>intro _ _ _ _<;>try contradiction)|(apply Ab;intro _ _ _))|fail));all_goals((conv=>whnf);try with_reducible apply At.mk)))
  all_goals first
   |contradiction
   |((refine Au ?_);rfl)
theorem OH {G:Prop}(g:G:=by((apply AW.arg1;(focus(apply mq;rotate_left;(focus assumption);(focus(apply Lines.Ok.same;(focus assumption);(focus exact Aq);(focus exact Nat.le_refl _)));(focus exact Ah)));(focus exact Is.rfl)))):G:=g
end AE.Tryz

/- Walks of drag and its reference: the ends of a span. -/
namespace AE.Tryz
open Go AE AE.Drag Go.Proofs
set_option maxRecDepth 100000

def ES (i:Int) (x:X) (n:Int):List Value:=[.int .i64 i,.int .i64 x.force,.int .i64 x.tank,.int .i64 x.XO,.int .i64 x.form,.int .i64 x.block,.int .i64 x.rough,.int .i64 n]

def gI (t:T) (S:Lines) (s:Nat) (f:Int) (bi:Int) (bx:X) (bn:Int):Prop:=
 (bi= -1/\bx=⟨0,0,0,0,0,0⟩/\bn=0/\s=0/\f=t.ml)\/
 ∃(i:Nat) (f':Int),bi=i/\i<S.k/\t.ml<=f'/\f'<=t.mh/\bx=Ey t f'/\bn=EB t (S.ln i) (Ey t f')/\(-200000<=EB t (S.ln i) (Ey t f')/\EB t (S.ln i) (Ey t f')<=1000202000)/\
  (∀j,j<s->∀f2,t.ml<=f2->f2<=t.mh->EB t (S.ln i) (Ey t f')<=EB t (S.ln j) (Ey t f2))/\(∀f2,t.ml<=f2->f2<f->EB t (S.ln i) (Ey t f')<=EB t (S.ln s) (Ey t f2))

set_option maxHeartbeats 4000000 in
theorem uq {h:H}{t:T}{S:Lines}{m:Nat}(hm:m<=h.next) (hS:S.Ok m h) (F:Jp t S):AW Tryz.prog 62 h.next h [.agg ⟨t.cells⟩,.slice S.b S.k S.c,.int .i64 (-1)]
 (fun w _=>∃(i:Nat) (f:Int),i<S.k/\t.ml<=f/\f<=t.mh/\w= .agg ⟨ES i (Ey t f) (EB t (S.ln i) (Ey t f))⟩/\∀c,vj t S c->EB t (S.ln i) (Ey t f)<=c):=by
 obtain⟨e1,i1,r1,ok,l1⟩:=hS
 obtain⟨k,sv,rk⟩:=F
 have hk1:=sv.lo
 have hm1:=k.m1;have hm2:=k.m2;have QU:=k.m3
 refine vU.call rfl (Nat.le_refl _) ?_
 unfold a62
 (focus((try with_reducible apply wpC.to);(repeat'((conv=>whnf);first|refine Ak ?_|(apply Fork.mk<;>(intro _;try(exfalso;omega)))|((apply Ar);(focus exact Ao);(focus exact AQ);(focus(first|exact Bz|exact Bp|exact Eb|exact Bn|exact Bo|exact Bj|exact Bh|exact Be));first|((apply Ad)<;>(intro AV _ _ _;first|exact Bool.noConfusion AV|replace AV:=of_decide_eq_true AV|replace AV:=of_decide_eq_false AV|skip)<;>((try simp only[AllOk,Bd.ok,and_true]at AV);first|contradiction|(revert AV;intros)))|((apply Ac)<;>intro _ _ _ _<;>try contradiction)|(apply Ab;intro _ _ _))|fail));all_goals((conv=>whnf);try with_reducible apply At.mk)))
 refine wp_loop (fun s:Nat=>[(1,.slice S.b S.k S.c),(2,.int .i64 (-1)),(3,.pointer (some ⟨h.next+0,0,none⟩)),(6,.pointer (some ⟨h.next+1,0,none⟩)),(8,.pointer (some ⟨h.next+52,0,none⟩)),(9,.pointer (some ⟨h.next+55,0,none⟩)),(10,.pointer (some ⟨h.next+58,0,none⟩)),(64,.slice S.b S.k S.c),(65,.int .i64 S.k),(66,.int .i64 s)])
  (fun s h1=>h1.get (h.next+0)=some (.cells t.cells 135)/\h1.get (h.next+1)=some (.cells (ES 0 ⟨0,0,0,0,0,0⟩ 0) 141)/\(∃f,h1.get (h.next+52)=some (.cells (Ey t f).cells 139))/\h1.get (h.next+55)=some (.cells (ES (-1) ⟨0,0,0,0,0,0⟩ 0) 141)/\
   (∃bi bx bn,h1.get (h.next+58)=some (.cells (ES bi bx bn) 141)/\gI t S s t.ml bi bx bn)/\Same m h h1/\h.next+58<h1.next/\s<=S.k) (fun s=>S.k - s) 0
  ⟨rfl,rfl,rfl,rfl,rfl,rfl,rfl,rfl,rfl,rfl,trivial⟩ ⟨Aa,Aa,⟨0,Aa⟩,Aa,⟨-1,⟨0,0,0,0,0,0⟩,0,Aa,.inl ⟨rfl,rfl,rfl,rfl,rfl⟩⟩,Aq,Ah,by omega⟩ ?_
 rintro s g h1 ⟨g1,g2,⟨f0,g3⟩,g4,⟨bi,bx,bn,g5,FH⟩,q,hn1,hs⟩ K hK
 unfold T.cells at g1
 unfold ES at g4 g5
 unfold X.cells at g3
 by_cases hsk:s<S.k
 ·have hL:=ok s hsk
  have hv:=sv.v s hsk
  (focus((try with_reducible apply wpC.to);(repeat'((conv=>whnf);first|refine Ak ?_|(apply Fork.mk<;>(intro _;try(exfalso;omega)))|((apply Ar);(focus exact Ao);(focus exact AQ);(focus(first|exact Bz|exact Bp|exact Eb|exact Bn|exact Bo|exact Bj|exact Bh|exact Be));first|((apply Ad)<;>(intro AV _ _ _;first|exact Bool.noConfusion AV|replace AV:=of_decide_eq_true AV|replace AV:=of_decide_eq_false AV|skip)<;>((try simp only[AllOk,Bd.ok,and_true]at AV);first|contradiction|(revert AV;intros)))|((apply Ac)<;>intro _ _ _ _<;>try contradiction)|(apply Ab;intro _ _ _))|fail));all_goals((conv=>whnf);try with_reducible apply At.mk)))
  refine wp_loop (fun _:Int=>[(1,.slice S.b S.k S.c),(2,.int .i64 (-1)),(3,.pointer (some ⟨h.next+0,0,none⟩)),(6,.pointer (some ⟨h.next+1,0,none⟩)),(8,.pointer (some ⟨h.next+52,0,none⟩)),(9,.pointer (some ⟨h.next+55,0,none⟩)),(10,.pointer (some ⟨h.next+58,0,none⟩)),(11,.int .i64 s),(12,.pointer (some ⟨h1.next+4,0,none⟩)),(64,.slice S.b S.k S.c),(65,.int .i64 S.k),(66,.int .i64 s)])
   (fun f h2=>h2.get (h.next+0)=some (.cells t.cells 135)/\h2.get (h.next+1)=some (.cells (ES 0 ⟨0,0,0,0,0,0⟩ 0) 141)/\h2.get (h.next+52)=some (.cells (Ey t f).cells 139)/\h2.get (h.next+55)=some (.cells (ES (-1) ⟨0,0,0,0,0,0⟩ 0) 141)/\
    (∃bi bx bn,h2.get (h.next+58)=some (.cells (ES bi bx bn) 141)/\gI t S s f bi bx bn)/\Same m h h2/\h2.get (h1.next+4)=some (.cells (S.ln s).cells 71)/\h1.next+4<h2.next/\t.ml<=f/\f<=t.mh+1) (fun f=>(t.mh+1 - f).toNat) t.ml
   ⟨rfl,rfl,rfl,rfl,rfl,rfl,rfl,rfl,rfl,rfl,rfl,rfl,trivial⟩ ⟨Aa,Aa,Aa,Aa,⟨bi,bx,bn,Aa,FH⟩,Aq,Aa,Ah,by omega,by omega⟩ ?_
  clear g1 g2 g3 g4 g5 FH
  rintro f g h2 ⟨g1,g2,g3,g4,⟨bi,bx,bn,g5,FH⟩,q2,g6,hn2,hf1,hf2⟩ K2 hK2
  unfold T.cells at g1
  unfold ES at g4 g5
  unfold X.cells at g3
  unfold Line.cells at g6
  have hform:(Ey t f).form=f:=rfl
  by_cases hf:f<=t.mh
  ·have hit:TI t (Ey t f):=⟨Int.le_refl _,k.f2,k.t2,Int.le_refl _,Int.le_refl _,k.e2,hf1,hf,k.b2,Int.le_refl _,Int.le_refl _,k.r2⟩
   have hb:(Ey t f).Bd:=hit.bd k
   have jy:both t (S.ln s) (Ey t f):=Xc k (rk s hsk) hit.t1 hit.t2 hit.e1 hit.e2
   have hi1:inside (S.ln s) (FO t (Ey t f).tank):=jy.1
   have hi2:inside (S.ln s) (Hp t (Ey t f).XO):=jy.2
   have hcb:=P4 k hb (GR hv hi1) (GR hv hi2)
   have ot: -200000<=EB t (S.ln s) (Ey t f)/\EB t (S.ln s) (Ey t f)<=1000202000:=hcb
   rcases FH with⟨rfl,rfl,rfl,hs0,hf0⟩|⟨i,f',rfl,hi,hf3,bM,rfl,rfl,hbd,hb1,hb2⟩
   ·(focus((try with_reducible apply wpC.to);(repeat'((conv=>whnf);first|refine Ak ?_|(apply Fork.mk<;>(intro _;try(exfalso;omega)))|((apply Ar);(focus exact Ao);(focus exact AQ);(focus(first|exact Bz|exact Bp|exact Eb|exact Bn|exact Bo|exact Bj|exact Bh|exact Be));first|((apply Ad)<;>(intro AV _ _ _;first|exact Bool.noConfusion AV|replace AV:=of_decide_eq_true AV|replace AV:=of_decide_eq_false AV|skip)<;>((try simp only[AllOk,Bd.ok,and_true]at AV);first|contradiction|(revert AV;intros)))|((apply Ac)<;>intro _ _ _ _<;>try contradiction)|(apply Ab;intro _ _ _))|fail));all_goals((conv=>whnf);try with_reducible apply At.mk)))
    refine DT.pure (.bool true) (by kernel_rfl) ?_
    (focus((try with_reducible apply wpC.to);(repeat'((conv=>whnf);first|refine Ak ?_|(apply Fork.mk<;>(intro _;try(exfalso;omega)))|((apply Ar);(focus exact Ao);(focus exact AQ);(focus(first|exact Bz|exact Bp|exact Eb|exact Bn|exact Bo|exact Bj|exact Bh|exact Be));first|((apply Ad)<;>(intro AV _ _ _;first|exact Bool.noConfusion AV|replace AV:=of_decide_eq_true AV|replace AV:=of_decide_eq_false AV|skip)<;>((try simp only[AllOk,Bd.ok,and_true]at AV);first|contradiction|(revert AV;intros)))|((apply Ac)<;>intro _ _ _ _<;>try contradiction)|(apply Ab;intro _ _ _))|fail));all_goals((conv=>whnf);try with_reducible apply At.mk)))
    refine hK2 (f+1) _ _ ⟨rfl,rfl,rfl,rfl,rfl,rfl,rfl,rfl,rfl,rfl,rfl,rfl,trivial⟩ ⟨Aa,Aa,Aa,Aa,⟨s,Ey t f,EB t (S.ln s) (Ey t f),Aa,.inr ⟨s,f,rfl,hsk,hf1,hf,rfl,rfl,ot,fun j hj=>by omega,fun f2 h3 h4=>?_⟩⟩,Aq,Aa,Ah,by omega,by omega⟩ Al
    have:f2=f:=by omega
    subst this
    exact Int.le_refl _
   ·(focus((try with_reducible apply wpC.to);(repeat'((conv=>whnf);first|refine Ak ?_|(apply Fork.mk<;>(intro _;try(exfalso;omega)))|((apply Ar);(focus exact Ao);(focus exact AQ);(focus(first|exact Bz|exact Bp|exact Eb|exact Bn|exact Bo|exact Bj|exact Bh|exact Be));first|((apply Ad)<;>(intro AV _ _ _;first|exact Bool.noConfusion AV|replace AV:=of_decide_eq_true AV|replace AV:=of_decide_eq_false AV|skip)<;>((try simp only[AllOk,Bd.ok,and_true]at AV);first|contradiction|(revert AV;intros)))|((apply Ac)<;>intro _ _ _ _<;>try contradiction)|(apply Ab;intro _ _ _))|fail));all_goals((conv=>whnf);try with_reducible apply At.mk)))
    refine DT.pure (.bool false) (by kernel_rfl) ?_
    (focus((try with_reducible apply wpC.to);(repeat'((conv=>whnf);first|refine Ak ?_|(apply Fork.mk<;>(intro _;try(exfalso;omega)))|((apply Ar);(focus exact Ao);(focus exact AQ);(focus(first|exact Bz|exact Bp|exact Eb|exact Bn|exact Bo|exact Bj|exact Bh|exact Be));first|((apply Ad)<;>(intro AV _ _ _;first|exact Bool.noConfusion AV|replace AV:=of_decide_eq_true AV|replace AV:=of_decide_eq_false AV|skip)<;>((try simp only[AllOk,Bd.ok,and_true]at AV);first|contradiction|(revert AV;intros)))|((apply Ac)<;>intro _ _ _ _<;>try contradiction)|(apply Ab;intro _ _ _))|fail));all_goals((conv=>whnf);try with_reducible apply At.mk)))
    ·refine hK2 (f+1) _ _ ⟨rfl,rfl,rfl,rfl,rfl,rfl,rfl,rfl,rfl,rfl,rfl,rfl,trivial⟩ ⟨Aa,Aa,Aa,Aa,⟨s,Ey t f,EB t (S.ln s) (Ey t f),Aa,.inr ⟨s,f,rfl,hsk,hf1,hf,rfl,rfl,ot,fun j hj f2 h3 h4=>?_,fun f2 h3 h4=>?_⟩⟩,Aq,Aa,Ah,by omega,by omega⟩ Al
     ·have:=hb1 j hj f2 h3 h4;omega
     ·by_cases e:f2=f
      ·subst e;omega
      ·have:=hb2 f2 h3 Al;omega
    ·refine hK2 (f+1) _ _ ⟨rfl,rfl,rfl,rfl,rfl,rfl,rfl,rfl,rfl,rfl,rfl,rfl,trivial⟩ ⟨Aa,Aa,Aa,Aa,⟨i,Ey t f',EB t (S.ln i) (Ey t f'),Aa,.inr ⟨i,f',rfl,hi,hf3,bM,rfl,rfl,hbd,hb1,fun f2 h3 h4=>?_⟩⟩,Aq,Aa,Ah,by omega,by omega⟩ Al
     by_cases e:f2=f
     ·subst e;omega
     ·exact hb2 f2 h3 Al
  ·have hfe:f=t.mh+1:=by omega
   subst hfe
   (focus((try with_reducible apply wpC.to);(repeat'((conv=>whnf);first|refine Ak ?_|(apply Fork.mk<;>(intro _;try(exfalso;omega)))|((apply Ar);(focus exact Ao);(focus exact AQ);(focus(first|exact Bz|exact Bp|exact Eb|exact Bn|exact Bo|exact Bj|exact Bh|exact Be));first|((apply Ad)<;>(intro AV _ _ _;first|exact Bool.noConfusion AV|replace AV:=of_decide_eq_true AV|replace AV:=of_decide_eq_false AV|skip)<;>((try simp only[AllOk,Bd.ok,and_true]at AV);first|contradiction|(revert AV;intros)))|((apply Ac)<;>intro _ _ _ _<;>try contradiction)|(apply Ab;intro _ _ _))|fail));all_goals((conv=>whnf);try with_reducible apply At.mk)))
   refine hK (s+1) _ _ ⟨rfl,rfl,rfl,rfl,rfl,rfl,rfl,rfl,rfl,AK rfl Al,trivial⟩ ⟨Aa,Aa,⟨_,Aa⟩,Aa,⟨bi,bx,bn,Aa,?_⟩,Aq,Ah,by omega⟩ Al
   rcases FH with⟨rfl,rfl,rfl,hs0,hf0⟩|⟨i,f',rfl,hi,hf3,bM,rfl,rfl,hbd,hb1,hb2⟩
   ·omega
   ·refine .inr ⟨i,f',rfl,hi,hf3,bM,rfl,rfl,hbd,fun j hj f2 h3 h4=>?_,fun f2 h3 h4=>by omega⟩
    by_cases e:j=s
    ·subst e;exact hb2 f2 h3 Al
    ·exact hb1 j Al f2 h3 h4
 ·have:s=S.k:=by omega
  subst this
  rcases FH with⟨rfl,rfl,rfl,hs0,hf0⟩|⟨i,f',rfl,hi,hf3,bM,rfl,rfl,hbd,hb1,hb2⟩
  ·omega
  unfold ES at g2
  (focus((try with_reducible apply wpC.to);(repeat'((conv=>whnf);first|refine Ak ?_|(apply Fork.mk<;>(intro _;try(exfalso;omega)))|((apply Ar);(focus exact Ao);(focus exact AQ);(focus(first|exact Bz|exact Bp|exact Eb|exact Bn|exact Bo|exact Bj|exact Bh|exact Be));first|((apply Ad)<;>(intro AV _ _ _;first|exact Bool.noConfusion AV|replace AV:=of_decide_eq_true AV|replace AV:=of_decide_eq_false AV|skip)<;>((try simp only[AllOk,Bd.ok,and_true]at AV);first|contradiction|(revert AV;intros)))|((apply Ac)<;>intro _ _ _ _<;>try contradiction)|(apply Ab;intro _ _ _))|fail));all_goals((conv=>whnf);try with_reducible apply At.mk)))
  (refine Au ?_)
  refine⟨i,f',hi,hf3,bM,rfl,?_⟩
  rintro c ⟨j,hj,f2,h3,h4,rfl⟩
  exact hb1 j hj f2 h3 h4
end AE.Tryz

/- Walks of drag and its reference: the ends of a span. -/
namespace AE.Tryz
open Go AE AE.Drag Go.Proofs
set_option maxRecDepth 100000


def ZH (t:T) (S:Lines) (s:Nat) (f:Int) (bi:Int) (bx:X) (bn:Int):Prop:=
 (bi= -1/\bx=⟨0,0,0,0,0,0⟩/\bn=0/\s=0/\f=t.ml)\/
 ∃(i:Nat) (f':Int),bi=i/\i<S.k/\t.ml<=f'/\f'<=t.mh/\bx=CZ t f'/\bn=EB t (S.ln i) (CZ t f')/\(-200000<=EB t (S.ln i) (CZ t f')/\EB t (S.ln i) (CZ t f')<=1000202000)/\
  (∀j,j<s->∀f2,t.ml<=f2->f2<=t.mh->EB t (S.ln j) (CZ t f2)<=EB t (S.ln i) (CZ t f'))/\(∀f2,t.ml<=f2->f2<f->EB t (S.ln s) (CZ t f2)<=EB t (S.ln i) (CZ t f'))

set_option maxHeartbeats 4000000 in
theorem o9 {h:H}{t:T}{S:Lines}{m:Nat}(hm:m<=h.next) (hS:S.Ok m h) (F:Jp t S):AW Tryz.prog 62 h.next h [.agg ⟨t.cells⟩,.slice S.b S.k S.c,.int .i64 (1)]
 (fun w _=>∃(i:Nat) (f:Int),i<S.k/\t.ml<=f/\f<=t.mh/\w= .agg ⟨ES i (CZ t f) (EB t (S.ln i) (CZ t f))⟩/\∀c,gG t S c->c<=EB t (S.ln i) (CZ t f)):=by
 obtain⟨e1,i1,r1,ok,l1⟩:=hS
 obtain⟨k,sv,rk⟩:=F
 have hk1:=sv.lo
 have hm1:=k.m1;have hm2:=k.m2;have QU:=k.m3
 refine vU.call rfl (Nat.le_refl _) ?_
 unfold a62
 (focus((try with_reducible apply wpC.to);(repeat'((conv=>whnf);first|refine Ak ?_|(apply Fork.mk<;>(intro _;try(exfalso;omega)))|((apply Ar);(focus exact Ao);(focus exact AQ);(focus(first|exact Bz|exact Bp|exact Eb|exact Bn|exact Bo|exact Bj|exact Bh|exact Be));first|((apply Ad)<;>(intro AV _ _ _;first|exact Bool.noConfusion AV|replace AV:=of_decide_eq_true AV|replace AV:=of_decide_eq_false AV|skip)<;>((try simp only[AllOk,Bd.ok,and_true]at AV);first|contradiction|(revert AV;intros)))|((apply Ac)<;>intro _ _ _ _<;>try contradiction)|(apply Ab;intro _ _ _))|fail));all_goals((conv=>whnf);try with_reducible apply At.mk)))
 refine wp_loop (fun s:Nat=>[(1,.slice S.b S.k S.c),(2,.int .i64 (1)),(3,.pointer (some ⟨h.next+0,0,none⟩)),(6,.pointer (some ⟨h.next+1,0,none⟩)),(8,.pointer (some ⟨h.next+52,0,none⟩)),(9,.pointer (some ⟨h.next+55,0,none⟩)),(10,.pointer (some ⟨h.next+58,0,none⟩)),(64,.slice S.b S.k S.c),(65,.int .i64 S.k),(66,.int .i64 s)])
  (fun s h1=>h1.get (h.next+0)=some (.cells t.cells 135)/\h1.get (h.next+1)=some (.cells (ES 0 ⟨0,0,0,0,0,0⟩ 0) 141)/\(∃f,h1.get (h.next+52)=some (.cells (CZ t f).cells 139))/\h1.get (h.next+55)=some (.cells (ES (-1) ⟨0,0,0,0,0,0⟩ 0) 141)/\
   (∃bi bx bn,h1.get (h.next+58)=some (.cells (ES bi bx bn) 141)/\ZH t S s t.ml bi bx bn)/\Same m h h1/\h.next+58<h1.next/\s<=S.k) (fun s=>S.k - s) 0
  ⟨rfl,rfl,rfl,rfl,rfl,rfl,rfl,rfl,rfl,rfl,trivial⟩ ⟨Aa,Aa,⟨0,Aa⟩,Aa,⟨-1,⟨0,0,0,0,0,0⟩,0,Aa,.inl ⟨rfl,rfl,rfl,rfl,rfl⟩⟩,Aq,Ah,by omega⟩ ?_
 rintro s g h1 ⟨g1,g2,⟨f0,g3⟩,g4,⟨bi,bx,bn,g5,FH⟩,q,hn1,hs⟩ K hK
 unfold T.cells at g1
 unfold ES at g4 g5
 unfold X.cells at g3
 by_cases hsk:s<S.k
 ·have hL:=ok s hsk
  have hv:=sv.v s hsk
  (focus((try with_reducible apply wpC.to);(repeat'((conv=>whnf);first|refine Ak ?_|(apply Fork.mk<;>(intro _;try(exfalso;omega)))|((apply Ar);(focus exact Ao);(focus exact AQ);(focus(first|exact Bz|exact Bp|exact Eb|exact Bn|exact Bo|exact Bj|exact Bh|exact Be));first|((apply Ad)<;>(intro AV _ _ _;first|exact Bool.noConfusion AV|replace AV:=of_decide_eq_true AV|replace AV:=of_decide_eq_false AV|skip)<;>((try simp only[AllOk,Bd.ok,and_true]at AV);first|contradiction|(revert AV;intros)))|((apply Ac)<;>intro _ _ _ _<;>try contradiction)|(apply Ab;intro _ _ _))|fail));all_goals((conv=>whnf);try with_reducible apply At.mk)))
  refine wp_loop (fun _:Int=>[(1,.slice S.b S.k S.c),(2,.int .i64 (1)),(3,.pointer (some ⟨h.next+0,0,none⟩)),(6,.pointer (some ⟨h.next+1,0,none⟩)),(8,.pointer (some ⟨h.next+52,0,none⟩)),(9,.pointer (some ⟨h.next+55,0,none⟩)),(10,.pointer (some ⟨h.next+58,0,none⟩)),(11,.int .i64 s),(12,.pointer (some ⟨h1.next+4,0,none⟩)),(64,.slice S.b S.k S.c),(65,.int .i64 S.k),(66,.int .i64 s)])
   (fun f h2=>h2.get (h.next+0)=some (.cells t.cells 135)/\h2.get (h.next+1)=some (.cells (ES 0 ⟨0,0,0,0,0,0⟩ 0) 141)/\h2.get (h.next+52)=some (.cells (CZ t f).cells 139)/\h2.get (h.next+55)=some (.cells (ES (-1) ⟨0,0,0,0,0,0⟩ 0) 141)/\
    (∃bi bx bn,h2.get (h.next+58)=some (.cells (ES bi bx bn) 141)/\ZH t S s f bi bx bn)/\Same m h h2/\h2.get (h1.next+4)=some (.cells (S.ln s).cells 71)/\h1.next+4<h2.next/\t.ml<=f/\f<=t.mh+1) (fun f=>(t.mh+1 - f).toNat) t.ml
   ⟨rfl,rfl,rfl,rfl,rfl,rfl,rfl,rfl,rfl,rfl,rfl,rfl,trivial⟩ ⟨Aa,Aa,Aa,Aa,⟨bi,bx,bn,Aa,FH⟩,Aq,Aa,Ah,by omega,by omega⟩ ?_
  clear g1 g2 g3 g4 g5 FH
  rintro f g h2 ⟨g1,g2,g3,g4,⟨bi,bx,bn,g5,FH⟩,q2,g6,hn2,hf1,hf2⟩ K2 hK2
  unfold T.cells at g1
  unfold ES at g4 g5
  unfold X.cells at g3
  unfold Line.cells at g6
  have hform:(CZ t f).form=f:=rfl
  by_cases hf:f<=t.mh
  ·have hit:TI t (CZ t f):=⟨k.f2,Int.le_refl _,Int.le_refl _,k.t2,k.e2,Int.le_refl _,hf1,hf,Int.le_refl _,k.b2,k.r2,Int.le_refl _⟩
   have hb:(CZ t f).Bd:=hit.bd k
   have jy:both t (S.ln s) (CZ t f):=Xc k (rk s hsk) hit.t1 hit.t2 hit.e1 hit.e2
   have hi1:inside (S.ln s) (FO t (CZ t f).tank):=jy.1
   have hi2:inside (S.ln s) (Hp t (CZ t f).XO):=jy.2
   have hcb:=P4 k hb (GR hv hi1) (GR hv hi2)
   have ot: -200000<=EB t (S.ln s) (CZ t f)/\EB t (S.ln s) (CZ t f)<=1000202000:=hcb
   rcases FH with⟨rfl,rfl,rfl,hs0,hf0⟩|⟨i,f',rfl,hi,hf3,bM,rfl,rfl,hbd,hb1,hb2⟩
   ·(focus((try with_reducible apply wpC.to);(repeat'((conv=>whnf);first|refine Ak ?_|(apply Fork.mk<;>(intro _;try(exfalso;omega)))|((apply Ar);(focus exact Ao);(focus exact AQ);(focus(first|exact Bz|exact Bp|exact Eb|exact Bn|exact Bo|exact Bj|exact Bh|exact Be));first|((apply Ad)<;>(intro AV _ _ _;first|exact Bool.noConfusion AV|replace AV:=of_decide_eq_true AV|replace AV:=of_decide_eq_false AV|skip)<;>((try simp only[AllOk,Bd.ok,and_true]at AV);first|contradiction|(revert AV;intros)))|((apply Ac)<;>intro _ _ _ _<;>try contradiction)|(apply Ab;intro _ _ _))|fail));all_goals((conv=>whnf);try with_reducible apply At.mk)))
    refine DT.pure (.bool true) (by kernel_rfl) ?_
    (focus((try with_reducible apply wpC.to);(repeat'((conv=>whnf);first|refine Ak ?_|(apply Fork.mk<;>(intro _;try(exfalso;omega)))|((apply Ar);(focus exact Ao);(focus exact AQ);(focus(first|exact Bz|exact Bp|exact Eb|exact Bn|exact Bo|exact Bj|exact Bh|exact Be));first|((apply Ad)<;>(intro AV _ _ _;first|exact Bool.noConfusion AV|replace AV:=of_decide_eq_true AV|replace AV:=of_decide_eq_false AV|skip)<;>((try simp only[AllOk,Bd.ok,and_true]at AV);first|contradiction|(revert AV;intros)))|((apply Ac)<;>intro _ _ _ _<;>try contradiction)|(apply Ab;intro _ _ _))|fail));all_goals((conv=>whnf);try with_reducible apply At.mk)))
    refine hK2 (f+1) _ _ ⟨rfl,rfl,rfl,rfl,rfl,rfl,rfl,rfl,rfl,rfl,rfl,rfl,trivial⟩ ⟨Aa,Aa,Aa,Aa,⟨s,CZ t f,EB t (S.ln s) (CZ t f),Aa,.inr ⟨s,f,rfl,hsk,hf1,hf,rfl,rfl,ot,fun j hj=>by omega,fun f2 h3 h4=>?_⟩⟩,Aq,Aa,Ah,by omega,by omega⟩ Al
    have:f2=f:=by omega
    subst this
    exact Int.le_refl _
   ·(focus((try with_reducible apply wpC.to);(repeat'((conv=>whnf);first|refine Ak ?_|(apply Fork.mk<;>(intro _;try(exfalso;omega)))|((apply Ar);(focus exact Ao);(focus exact AQ);(focus(first|exact Bz|exact Bp|exact Eb|exact Bn|exact Bo|exact Bj|exact Bh|exact Be));first|((apply Ad)<;>(intro AV _ _ _;first|exact Bool.noConfusion AV|replace AV:=of_decide_eq_true AV|replace AV:=of_decide_eq_false AV|skip)<;>((try simp only[AllOk,Bd.ok,and_true]at AV);first|contradiction|(revert AV;intros)))|((apply Ac)<;>intro _ _ _ _<;>try contradiction)|(apply Ab;intro _ _ _))|fail));all_goals((conv=>whnf);try with_reducible apply At.mk)))
    refine DT.pure (.bool false) (by kernel_rfl) ?_
    (focus((try with_reducible apply wpC.to);(repeat'((conv=>whnf);first|refine Ak ?_|(apply Fork.mk<;>(intro _;try(exfalso;omega)))|((apply Ar);(focus exact Ao);(focus exact AQ);(focus(first|exact Bz|exact Bp|exact Eb|exact Bn|exact Bo|exact Bj|exact Bh|exact Be));first|((apply Ad)<;>(intro AV _ _ _;first|exact Bool.noConfusion AV|replace AV:=of_decide_eq_true AV|replace AV:=of_decide_eq_false AV|skip)<;>((try simp only[AllOk,Bd.ok,and_true]at AV);first|contradiction|(revert AV;intros)))|((apply Ac)<;>intro _ _ _ _<;>try contradiction)|(apply Ab;intro _ _ _))|fail));all_goals((conv=>whnf);try with_reducible apply At.mk)))
    ·refine hK2 (f+1) _ _ ⟨rfl,rfl,rfl,rfl,rfl,rfl,rfl,rfl,rfl,rfl,rfl,rfl,trivial⟩ ⟨Aa,Aa,Aa,Aa,⟨s,CZ t f,EB t (S.ln s) (CZ t f),Aa,.inr ⟨s,f,rfl,hsk,hf1,hf,rfl,rfl,ot,fun j hj f2 h3 h4=>?_,fun f2 h3 h4=>?_⟩⟩,Aq,Aa,Ah,by omega,by omega⟩ Al
     ·have:=hb1 j hj f2 h3 h4;omega
     ·by_cases e:f2=f
      ·subst e;omega
      ·have:=hb2 f2 h3 Al;omega
    ·refine hK2 (f+1) _ _ ⟨rfl,rfl,rfl,rfl,rfl,rfl,rfl,rfl,rfl,rfl,rfl,rfl,trivial⟩ ⟨Aa,Aa,Aa,Aa,⟨i,CZ t f',EB t (S.ln i) (CZ t f'),Aa,.inr ⟨i,f',rfl,hi,hf3,bM,rfl,rfl,hbd,hb1,fun f2 h3 h4=>?_⟩⟩,Aq,Aa,Ah,by omega,by omega⟩ Al
     by_cases e:f2=f
     ·subst e;omega
     ·exact hb2 f2 h3 Al
  ·have hfe:f=t.mh+1:=by omega
   subst hfe
   (focus((try with_reducible apply wpC.to);(repeat'((conv=>whnf);first|refine Ak ?_|(apply Fork.mk<;>(intro _;try(exfalso;omega)))|((apply Ar);(focus exact Ao);(focus exact AQ);(focus(first|exact Bz|exact Bp|exact Eb|exact Bn|exact Bo|exact Bj|exact Bh|exact Be));first|((apply Ad)<;>(intro AV _ _ _;first|exact Bool.noConfusion AV|replace AV:=of_decide_eq_true AV|replace AV:=of_decide_eq_false AV|skip)<;>((try simp only[AllOk,Bd.ok,and_true]at AV);first|contradiction|(revert AV;intros)))|((apply Ac)<;>intro _ _ _ _<;>try contradiction)|(apply Ab;intro _ _ _))|fail));all_goals((conv=>whnf);try with_reducible apply At.mk)))
   refine hK (s+1) _ _ ⟨rfl,rfl,rfl,rfl,rfl,rfl,rfl,rfl,rfl,AK rfl Al,trivial⟩ ⟨Aa,Aa,⟨_,Aa⟩,Aa,⟨bi,bx,bn,Aa,?_⟩,Aq,Ah,by omega⟩ Al
   rcases FH with⟨rfl,rfl,rfl,hs0,hf0⟩|⟨i,f',rfl,hi,hf3,bM,rfl,rfl,hbd,hb1,hb2⟩
   ·omega
   ·refine .inr ⟨i,f',rfl,hi,hf3,bM,rfl,rfl,hbd,fun j hj f2 h3 h4=>?_,fun f2 h3 h4=>by omega⟩
    by_cases e:j=s
    ·subst e;exact hb2 f2 h3 Al
    ·exact hb1 j Al f2 h3 h4
 ·have:s=S.k:=by omega
  subst this
  rcases FH with⟨rfl,rfl,rfl,hs0,hf0⟩|⟨i,f',rfl,hi,hf3,bM,rfl,rfl,hbd,hb1,hb2⟩
  ·omega
  unfold ES at g2
  (focus((try with_reducible apply wpC.to);(repeat'((conv=>whnf);first|refine Ak ?_|(apply Fork.mk<;>(intro _;try(exfalso;omega)))|((apply Ar);(focus exact Ao);(focus exact AQ);(focus(first|exact Bz|exact Bp|exact Eb|exact Bn|exact Bo|exact Bj|exact Bh|exact Be));first|((apply Ad)<;>(intro AV _ _ _;first|exact Bool.noConfusion AV|replace AV:=of_decide_eq_true AV|replace AV:=of_decide_eq_false AV|skip)<;>((try simp only[AllOk,Bd.ok,and_true]at AV);first|contradiction|(revert AV;intros)))|((apply Ac)<;>intro _ _ _ _<;>try contradiction)|(apply Ab;intro _ _ _))|fail));all_goals((conv=>whnf);try with_reducible apply At.mk)))
  (refine Au ?_)
  refine⟨i,f',hi,hf3,bM,rfl,?_⟩
  rintro c ⟨j,hj,f2,h3,h4,rfl⟩
  exact hb1 j hj f2 h3 h4
end AE.Tryz

/- Walks of drag: Span. -/
namespace AE.Tryz
open Go AE AE.Drag Go.Proofs
set_option maxRecDepth 100000

noncomputable def dO (t:T) (S:Lines):Value:=.tuple #[.agg ⟨[.int .i64 (if FM t S=0 then IU t S else 0),.int .i64 (if FM t S=0 then IV t S else 0)]⟩,.int .i64 (FM t S)]
set_option maxHeartbeats 1000000 in
theorem Z8 {h:H}{t:T}{S:Lines}{m:Nat}(hm:m<=h.next) (kn:Known t) (hS:S.Ok m h):AW Tryz.prog 23 h.next h [.agg ⟨t.cells⟩,.slice S.b S.k S.c] (fun w _=>w=dO t S):=by
 refine Age.call rfl (Nat.le_refl _) ?_
 unfold a23 dO
 by_cases he:FM t S=0
 ·have F:=KC.1 he
  rw[if_pos he,if_pos he]
  (focus((try with_reducible apply wpC.to);(repeat'((conv=>whnf);first|refine Ak ?_|(apply Fork.mk<;>(intro _;try(exfalso;omega)))|((apply Ar);(focus exact Ao);(focus exact AQ);(focus(first|exact OH|exact Bz|exact Bp|exact Bn|exact Bo|exact Bj|exact Bh|exact Be));first|((apply Ad)<;>(intro AV _ _ _;first|exact Bool.noConfusion AV|replace AV:=of_decide_eq_true AV|replace AV:=of_decide_eq_false AV|skip)<;>((try simp only[AllOk,Bd.ok,and_true]at AV);first|contradiction|(revert AV;intros)))|((apply Ac)<;>intro _ _ _ _<;>try contradiction)|(apply Ab;intro _ _ _))|fail));all_goals((conv=>whnf);try with_reducible apply At.mk)))
  apply Ar
  focus(exact Ao)
  focus omega
  focus
   apply AW.arg1
   ·exact uq (m:=m) Ah (hS.same Aq (Nat.le_refl _)) F
   ·exact Is.rfl
  rintro _ h1 ⟨i,f,hi,hf1,hf2,e,hmin⟩ q hn
  subst e
  (focus((try with_reducible apply wpC.to);(repeat'((conv=>whnf);first|refine Ak ?_|(apply Fork.mk<;>(intro _;try(exfalso;omega)))|((apply Ar);(focus exact Ao);(focus exact AQ);(focus(first|exact OH|exact Bz|exact Bp|exact Bn|exact Bo|exact Bj|exact Bh|exact Be));first|((apply Ad)<;>(intro AV _ _ _;first|exact Bool.noConfusion AV|replace AV:=of_decide_eq_true AV|replace AV:=of_decide_eq_false AV|skip)<;>((try simp only[AllOk,Bd.ok,and_true]at AV);first|contradiction|(revert AV;intros)))|((apply Ac)<;>intro _ _ _ _<;>try contradiction)|(apply Ab;intro _ _ _))|fail));all_goals((conv=>whnf);try with_reducible apply At.mk)))
  apply Ar
  focus(exact Ao)
  focus omega
  focus
   apply AW.arg1
   ·exact o9 (m:=m) Ah (hS.same Aq (Nat.le_refl _)) F
   ·exact Is.rfl
  rintro _ h2 ⟨i',f',hi',Ane,Anc,e,hmax⟩ q' hn'
  subst e
  (focus((try with_reducible apply wpC.to);(repeat'((conv=>whnf);first|refine Ak ?_|(apply Fork.mk<;>(intro _;try(exfalso;omega)))|((apply Ar);(focus exact Ao);(focus exact AQ);(focus(first|exact OH|exact Bz|exact Bp|exact Bn|exact Bo|exact Bj|exact Bh|exact Be));first|((apply Ad)<;>(intro AV _ _ _;first|exact Bool.noConfusion AV|replace AV:=of_decide_eq_true AV|replace AV:=of_decide_eq_false AV|skip)<;>((try simp only[AllOk,Bd.ok,and_true]at AV);first|contradiction|(revert AV;intros)))|((apply Ac)<;>intro _ _ _ _<;>try contradiction)|(apply Ab;intro _ _ _))|fail));all_goals((conv=>whnf);try with_reducible apply At.mk)))
  all_goals(refine Au ?_)
  have e1:IU t S=EB t (S.ln i) (Ey t f):=Uu ⟨⟨i,hi,f,hf1,hf2,rfl⟩,hmin⟩
  have e2:IV t S=EB t (S.ln i') (CZ t f'):=Uv ⟨⟨i',hi',f',Ane,Anc,rfl⟩,hmax⟩
  rw[e1,e2,he]
 ·rw[if_neg he,if_neg he]
  (focus((try with_reducible apply wpC.to);(repeat'((conv=>whnf);first|refine Ak ?_|(apply Fork.mk<;>(intro _;try(exfalso;omega)))|((apply Ar);(focus exact Ao);(focus exact AQ);(focus(first|exact OH|exact Bz|exact Bp|exact Bn|exact Bo|exact Bj|exact Bh|exact Be));first|((apply Ad)<;>(intro AV _ _ _;first|exact Bool.noConfusion AV|replace AV:=of_decide_eq_true AV|replace AV:=of_decide_eq_false AV|skip)<;>((try simp only[AllOk,Bd.ok,and_true]at AV);first|contradiction|(revert AV;intros)))|((apply Ac)<;>intro _ _ _ _<;>try contradiction)|(apply Ab;intro _ _ _))|fail));all_goals((conv=>whnf);try with_reducible apply At.mk)))
  all_goals((refine Au ?_);rfl)
end AE.Tryz
