/- Walks and plain laws: TAgreeM, TAgreeN, TopSa, NTopSc, TopSp, NTopF1. -/
import Derived.Test.YtneenfjffejnoaaGreatJoin56
import Derived.Test.YtneenfjffejnoaaGreatT9Code
import Derived.Test.YtneenfjffejnoaaGreatAEthree
set_option linter.unusedVariables false
set_option linter.unusedSimpArgs false
set_option linter.unusedSectionVars false

/- Walks of agree: truths that fit. -/
namespace AE.Tryz.Agr
set_option linter.unusedSimpArgs false
open Go AE AE.Ag AgreeS Go.Proofs
set_option maxRecDepth 100000

structure Er.Ok (t:Er) (m:Nat) (h:H):Prop where
 a:t.A.Ok m h
 c:t.C.Ok m h
theorem Er.Ok.same {t:Er}{m m':Nat}{h h':H}(k:t.Ok m h) (s:Same m h h') (hm:m<=m'):t.Ok m' h':=⟨k.a.same s hm,k.c.same s hm⟩

structure MU (T:Tab) (t:Er):Prop where
 an:(t.A.n:Int)=T.tanks
 cn:(t.C.n:Int)=T.hulls
 aw:∀i,i<t.A.n-> -1099511627776<=t.A.f i/\t.A.f i<=1099511627776
 cw:∀i,i<t.C.n-> -1099511627776<=t.C.f i/\t.C.f i<=1099511627776
 b:∀i,i<t.A.n->T.Ue<=t.A.f i/\t.A.f i<=T.TT
 t:∀i,i<T.n->(T.f i).lo<=t.A.f (T.f i).tank.toNat+t.C.f (T.f i).hull.toNat/\t.A.f (T.f i).tank.toNat+t.C.f (T.f i).hull.toNat<=(T.f i).hi

theorem Aec {h:H}{lo hi n:Int}:AW Tryz.prog 75 h.next h [.agg ⟨[.int .i64 lo,.int .i64 hi]⟩,.int .i64 n] (fun v _=>v= .bool (decide (lo<=n/\n<=hi))):=by
 refine Ae4.call rfl (Nat.le_refl _) ?_
 unfold a75
 (focus((try with_reducible apply wpC.to);(repeat'((conv=>whnf);first|refine Ak ?_|(apply Fork.mk<;>(intro _;try(exfalso;omega)))|fail));all_goals((conv=>whnf);try with_reducible apply At.mk)))
 all_goals((refine Au ?_);first|exact CI rfl Al|exact Ch rfl Al)
theorem C7 {G G':Prop}(g:G') (t:G'->G:=by((apply Ar);(focus exact Ao);(focus exact AQ);(focus(exact Aec)))):G:=t g

set_option maxHeartbeats 1000000 in
theorem W8 {h:H}{T:Tab}{t:Er}{m:Nat}(hm:m<=h.next) (hT:T.Ok m h) (hv:T.Valid) (ht:t.Ok m h):
 AW Tryz.prog 31 h.next h [.agg ⟨T.cells⟩,.agg ⟨t.cells⟩] (fun v _=>∃e,v= .int .i64 e/\(e=0↔MU T t)):=by
 obtain⟨te,ti,tr,tl⟩:=hT
 have hT:T.Ok m h:=⟨te,ti,tr,tl⟩
 obtain⟨⟨ae,ai,ar,al⟩,⟨ce,ci,cr,cl⟩⟩:=ht
 have hA:t.A.Ok m h:=⟨ae,ai,ar,al⟩
 have hC:t.C.Ok m h:=⟨ce,ci,cr,cl⟩
 refine Af6.call rfl (Nat.le_refl _) ?_
 unfold a31
 (focus((try with_reducible apply wpC.to);(repeat'((conv=>whnf);first|refine Ak ?_|(apply Fork.mk<;>(intro _;try(exfalso;omega)))|((first|refine C7 ?_|refine Bt ?_);first|((first|apply Ae|apply Ac|apply Ad)<;>intro _ _ _ _<;>try contradiction)|(apply Ab;intro _ _ _))|fail));all_goals((conv=>whnf);try with_reducible apply At.mk)))
 apply Dw
 focus(exact Ao)
 focus(exact AQ)
 focus exact Iu (m:=m) Ah (hT.same Aq (Nat.le_refl _)) hv
 intro h1 q1 hn1
 (focus((try with_reducible apply wpC.to);(repeat'((conv=>whnf);first|refine Ak ?_|(apply Fork.mk<;>(intro _;try(exfalso;omega)))|((first|refine C7 ?_|refine Bt ?_);first|((first|apply Ae|apply Ac|apply Ad)<;>intro _ _ _ _<;>try contradiction)|(apply Ab;intro _ _ _))|fail));all_goals((conv=>whnf);try with_reducible apply At.mk)))
 ·(refine Au ?_)
  exact⟨15,rfl,by omega,fun k=>by have:=k.an;omega⟩
 ·(refine Au ?_)
  exact⟨15,rfl,by omega,fun k=>by have:=k.cn;omega⟩
 apply Fp
 focus(exact Ao)
 focus(exact AQ)
 focus exact Pp (T:=t.A) (m:=m) Ah (hA.same Aq (Nat.le_refl _)) Al Al
 rotate_left
 ·intro hb h2 q2 hn2
  (focus((try with_reducible apply wpC.to);(repeat'((conv=>whnf);first|refine Ak ?_|(apply Fork.mk<;>(intro _;try(exfalso;omega)))|((first|refine C7 ?_|refine Bt ?_);first|((first|apply Ae|apply Ac|apply Ad)<;>intro _ _ _ _<;>try contradiction)|(apply Ab;intro _ _ _))|fail));all_goals((conv=>whnf);try with_reducible apply At.mk)))
  (refine Au ?_)
  exact⟨3,rfl,by omega,fun k=>absurd k.aw (of_decide_eq_false hb)⟩
 intro hb h2 q2 hn2
 (focus((try with_reducible apply wpC.to);(repeat'((conv=>whnf);first|refine Ak ?_|(apply Fork.mk<;>(intro _;try(exfalso;omega)))|((first|refine C7 ?_|refine Bt ?_);first|((first|apply Ae|apply Ac|apply Ad)<;>intro _ _ _ _<;>try contradiction)|(apply Ab;intro _ _ _))|fail));all_goals((conv=>whnf);try with_reducible apply At.mk)))
 apply Fp
 focus(exact Ao)
 focus(exact AQ)
 focus exact Pp (T:=t.C) (m:=m) Ah (hC.same Aq (Nat.le_refl _)) Al Al
 rotate_left
 ·intro hc h3 q3 Lj
  (focus((try with_reducible apply wpC.to);(repeat'((conv=>whnf);first|refine Ak ?_|(apply Fork.mk<;>(intro _;try(exfalso;omega)))|((first|refine C7 ?_|refine Bt ?_);first|((first|apply Ae|apply Ac|apply Ad)<;>intro _ _ _ _<;>try contradiction)|(apply Ab;intro _ _ _))|fail));all_goals((conv=>whnf);try with_reducible apply At.mk)))
  (refine Au ?_)
  exact⟨3,rfl,by omega,fun k=>absurd k.cw (of_decide_eq_false hc)⟩
 intro hc h3 q3 Lj
 have hb:=of_decide_eq_true hb
 have hc:=of_decide_eq_true hc
 (focus((try with_reducible apply wpC.to);(repeat'((conv=>whnf);first|refine Ak ?_|(apply Fork.mk<;>(intro _;try(exfalso;omega)))|((first|refine C7 ?_|refine Bt ?_);first|((first|apply Ae|apply Ac|apply Ad)<;>intro _ _ _ _<;>try contradiction)|(apply Ab;intro _ _ _))|fail));all_goals((conv=>whnf);try with_reducible apply At.mk)))
 refine wp_loop (fun s:Nat=>[(2,.pointer (some ⟨h.next,0,none⟩)),(3,.pointer (some ⟨h.next+1,0,none⟩)),(6,.func (.func 75) ⟨[]⟩ ⟨[]⟩),(43,t.A.val),(44,.int .i64 t.A.n),(45,.int .i64 s)])
  (fun s h4=>Same h.next h h4/\h.next+2<=h4.next/\s<=t.A.n/\h4.get h.next=some (.cells T.cells 31)/\h4.get (h.next+1)=some (.cells t.cells 39)/\∀i,i<s->T.Ue<=t.A.f i/\t.A.f i<=T.TT) (fun s=>t.A.n - s) 0
  ⟨rfl,rfl,rfl,rfl,rfl,rfl,trivial⟩ ⟨Aq,Ah,by omega,Aa,Aa,fun i hi=>by omega⟩ ?_
 rintro s g h4 ⟨sm,Ng,hs,g1,g2,hbi⟩ K hK
 have ai4:Ints h4 t.A.a t.A.n t.A.f:=ai.same (sm.mono hm) ar
 unfold G9.val
 (focus((try with_reducible apply wpC.to);(repeat'((conv=>whnf);first|refine Ak ?_|(apply Fork.mk<;>(intro _;try(exfalso;omega)))|((first|refine C7 ?_|refine Bt ?_);first|((first|apply Ae|apply Ac|apply Ad)<;>intro _ _ _ _<;>try contradiction)|(apply Ab;intro _ _ _))|fail));all_goals((conv=>whnf);try with_reducible apply At.mk)))
 ·refine hK (s+1) _ _ ⟨rfl,rfl,rfl,rfl,rfl,AK rfl Al,trivial⟩ ⟨Aq,Ah,by omega,Aa,Aa,fun i hi=>?_⟩ Al
  by_cases e:i=s
  ·subst e;assumption
  ·exact hbi i Al
 ·(refine Au ?_)
  exact⟨20,rfl,by omega,fun k=>by have:=k.b s Al;omega⟩
 have:s=t.A.n:=by omega
 subst this
 clear hK K
 refine wp_loop (fun u:Nat=>[(2,.pointer (some ⟨h.next,0,none⟩)),(3,.pointer (some ⟨h.next+1,0,none⟩)),(6,.func (.func 75) ⟨[]⟩ ⟨[]⟩),(57,.slice T.b T.n T.c),(58,.int .i64 T.n),(59,.int .i64 u)])
  (fun u h5=>Same h.next h h5/\h.next+2<=h5.next/\u<=T.n/\h5.get h.next=some (.cells T.cells 31)/\h5.get (h.next+1)=some (.cells t.cells 39)/\∀i,i<u->(T.f i).lo<=t.A.f (T.f i).tank.toNat+t.C.f (T.f i).hull.toNat/\t.A.f (T.f i).tank.toNat+t.C.f (T.f i).hull.toNat<=(T.f i).hi) (fun u=>T.n - u) 0
  ⟨rfl,rfl,rfl,rfl,rfl,rfl,trivial⟩ ⟨Aq,Ah,by omega,Aa,Aa,fun i hi=>by omega⟩ ?_
 clear g1 g2 ai4 Ng sm g
 rintro u g h5 ⟨sm,N4,hu,g1,g2,hti⟩ K hK
 have ai5:Ints h5 t.A.a t.A.n t.A.f:=ai.same (sm.mono hm) ar
 have ci5:Ints h5 t.C.a t.C.n t.C.f:=ci.same (sm.mono hm) cr
 have ti5:JP h5 T.a T.n 4 (fun i=>(T.f i).cells):=ti.same (sm.mono hm) tr
 have hfu:u<T.n->0<=(T.f u).tank/\(T.f u).tank<T.tanks/\0<=(T.f u).hull/\(T.f u).hull<T.hulls:=fun h=>by have:=hv.f u h;omega
 have hbu:u<T.n->(-1099511627776<=t.A.f (T.f u).tank.toNat/\t.A.f (T.f u).tank.toNat<=1099511627776)/\(-1099511627776<=t.C.f (T.f u).hull.toNat/\t.C.f (T.f u).hull.toNat<=1099511627776):=fun h=>⟨hb _ (by have:=hfu h;omega),hc _ (by have:=hfu h;omega)⟩
 (focus((try with_reducible apply wpC.to);(repeat'((conv=>whnf);first|refine Ak ?_|(apply Fork.mk<;>(intro _;try(exfalso;omega)))|((first|refine C7 ?_|refine Bt ?_);first|((first|apply Ae|apply Ac|apply Ad)<;>intro _ _ _ _<;>try contradiction)|(apply Ab;intro _ _ _))|fail));all_goals((conv=>whnf);try with_reducible apply At.mk)))
 ·refine hK (u+1) _ _ ⟨rfl,rfl,rfl,rfl,rfl,AK rfl Al,trivial⟩ ⟨Aq,Ah,by omega,Aa,Aa,fun i hi=>?_⟩ Al
  by_cases e:i=u
  ·subst e;assumption
  ·exact hti i Al
 ·(refine Au ?_)
  exact⟨20,rfl,by omega,fun k=>by have:=k.t u Al;omega⟩
 ·(refine Au ?_)
  exact⟨0,rfl,fun _=>⟨by omega,by omega,hb,hc,hbi,fun i hi=>hti i Al⟩,fun _=>rfl⟩

end AE.Tryz.Agr

/- Walks of agree: the definitions' checks. -/
namespace AE.Tryz.Agr
set_option linter.unusedSimpArgs false
open Go AE AE.Ag AgreeS Go.Proofs
set_option maxRecDepth 100000

theorem lC {h:H}{lo hi:Int}:AW Tryz.prog 37 h.next h [.agg ⟨[.int .i64 lo,.int .i64 hi]⟩] (fun v _=>v= .bool (decide (TR lo hi))):=by
 refine Af2.call rfl (Nat.le_refl _) ?_
 unfold a37
 (focus((try with_reducible apply wpC.to);(repeat'((conv=>whnf);first|refine Ak ?_|(apply Fork.mk<;>(intro _;try(exfalso;omega)))|fail));all_goals((conv=>whnf);try with_reducible apply At.mk)))
 all_goals(refine Au ?_)
 all_goals first|exact CI rfl (by unfold TR;omega)|exact Ch rfl (by unfold TR;omega)
theorem FD {G G':Prop}(g:G') (t:G'->G:=by((apply Ar);(focus exact Ao);(focus exact AQ);(focus(exact lC)))):G:=t g

set_option maxHeartbeats 1000000 in
theorem I3 {h:H}{T:Tab}{m:Nat}(hm:m<=h.next) (hT:T.Ok m h):
 AW Tryz.prog 9 h.next h [.agg ⟨T.cells⟩] (fun v _=>∃e,v= .int .i64 e/\(e=0↔T.Valid)):=by
 obtain⟨te,ti,tr,tl⟩:=hT
 refine Ani.call rfl (Nat.le_refl _) ?_
 unfold a9
 (focus((try with_reducible apply wpC.to);(repeat'((conv=>whnf);first|refine Ak ?_|(apply Fork.mk<;>(intro _;try(exfalso;omega)))|((refine FD ?_);first|((first|apply Ae|apply Ac|apply Ad)<;>intro _ _ _ _<;>try contradiction)|(apply Ab;intro _ _ _))|fail));all_goals((conv=>whnf);try with_reducible apply At.mk)))
 ·(refine Au ?_)
  exact⟨6,rfl,by omega,fun k=>by have:=k.n;omega⟩
 ·(refine Au ?_)
  exact⟨2,rfl,by omega,fun k=>by have:=k.t1;omega⟩
 ·(refine Au ?_)
  exact⟨2,rfl,by omega,fun k=>by have:=k.t2;omega⟩
 ·(refine Au ?_)
  exact⟨2,rfl,by omega,fun k=>by have:=k.h1;omega⟩
 ·(refine Au ?_)
  exact⟨2,rfl,by omega,fun k=>by have:=k.h2;omega⟩
 rotate_left
 ·(refine Au ?_)
  exact⟨2,rfl,by omega,fun k=>absurd k.b (by assumption)⟩
 rename_i hR h1 q1 hn1
 refine wp_loop (fun s:Nat=>[(1,.pointer (some ⟨h.next,0,none⟩)),(3,.int .i64 s)])
  (fun s h4=>Same h.next h h4/\h.next+1<=h4.next/\s<=T.n/\h4.get h.next=some (.cells T.cells 31)/\∀i,i<s->(0<=(T.f i).tank/\(T.f i).tank<T.tanks)/\(0<=(T.f i).hull/\(T.f i).hull<T.hulls)) (fun s=>T.n - s) 0
  ⟨rfl,rfl,trivial⟩ ⟨Aq,Ah,by omega,Aa,fun i hi=>by omega⟩ ?_
 rintro s g h4 ⟨sm,Ng,hs,g1,hti⟩ K hK
 have ti4:JP h4 T.a T.n 4 (fun i=>(T.f i).cells):=ti.same (sm.mono hm) tr
 (focus((try with_reducible apply wpC.to);(repeat'((conv=>whnf);first|refine Ak ?_|(apply Fork.mk<;>(intro _;try(exfalso;omega)))|((refine FD ?_);first|((first|apply Ae|apply Ac|apply Ad)<;>intro _ _ _ _<;>try contradiction)|(apply Ab;intro _ _ _))|fail));all_goals((conv=>whnf);try with_reducible apply At.mk)))
 ·(refine Au ?_)
  exact⟨3,rfl,by omega,fun k=>by have:=k.f s Al;omega⟩
 ·(refine Au ?_)
  exact⟨3,rfl,by omega,fun k=>by have:=k.f s Al;omega⟩
 ·(refine Au ?_)
  exact⟨3,rfl,by omega,fun k=>by have:=k.f s Al;omega⟩
 ·(refine Au ?_)
  exact⟨3,rfl,by omega,fun k=>by have:=k.f s Al;omega⟩
 ·refine hK (s+1) _ _ ⟨rfl,AK rfl Al,trivial⟩ ⟨Aq,Ah,by omega,Aa,fun i hi=>?_⟩ Al
  by_cases e:i=s
  ·subst e;omega
  ·exact hti i Al
 have:s=T.n:=by omega
 subst this
 clear hK K
 refine wp_loop (fun u:Nat=>[(1,.pointer (some ⟨h.next,0,none⟩)),(5,.int .i64 u)])
  (fun u h4=>Same h.next h h4/\h.next+1<=h4.next/\u<=T.n/\h4.get h.next=some (.cells T.cells 31)/\∀i,i<u->TR (T.f i).lo (T.f i).hi) (fun u=>T.n - u) 0
  ⟨rfl,rfl,trivial⟩ ⟨Aq,Ah,by omega,Aa,fun i hi=>by omega⟩ ?_
 clear g1 Ng sm g ti4
 rintro u g h5 ⟨sm,N4,hu,g1,hri⟩ K hK
 have ti5:JP h5 T.a T.n 4 (fun i=>(T.f i).cells):=ti.same (sm.mono hm) tr
 (focus((try with_reducible apply wpC.to);(repeat'((conv=>whnf);first|refine Ak ?_|(apply Fork.mk<;>(intro _;try(exfalso;omega)))|((refine FD ?_);first|((first|apply Ae|apply Ac|apply Ad)<;>intro _ _ _ _<;>try contradiction)|(apply Ab;intro _ _ _))|fail));all_goals((conv=>whnf);try with_reducible apply At.mk)))
 ·refine Mi.mk (l:=[.int .i64 (T.f u).lo,.int .i64 (T.f u).hi]) (IB (l:=(T.f u).cells) Zq rfl) Is.rfl ?_
  (focus((try with_reducible apply wpC.to);(repeat'((conv=>whnf);first|refine Ak ?_|(apply Fork.mk<;>(intro _;try(exfalso;omega)))|((refine FD ?_);first|((first|apply Ae|apply Ac|apply Ad)<;>intro _ _ _ _<;>try contradiction)|(apply Ab;intro _ _ _))|fail));all_goals((conv=>whnf);try with_reducible apply At.mk)))
  ·refine hK (u+1) _ _ ⟨rfl,AK rfl Al,trivial⟩ ⟨Aq,Ah,by omega,Aa,fun i hi=>?_⟩ Al
   by_cases e:i=u
   ·subst e;assumption
   ·exact hri i Al
  ·(refine Au ?_)
   exact⟨2,rfl,by omega,fun k=>absurd (k.f u Al).2.2 (by assumption)⟩
 ·(refine Au ?_)
  refine⟨0,rfl,fun _=>⟨by omega,by omega,by omega,by omega,by omega,by assumption,fun i hi=>⟨(hti i hi).1,(hti i hi).2,hri i Al⟩⟩,fun _=>rfl⟩

theorem Qo {h:H}{T:Tab}{m:Nat}(hm:m<=h.next) (hT:T.Ok m h) (hv:T.Valid):AW Tryz.prog 9 h.next h [.agg ⟨T.cells⟩] (fun v _=>v= .int .i64 0):=
 let⟨v,h',⟨e,h1,h2⟩,a⟩:=I3 hm hT
 ⟨v,h',by rw[h1,h2.2 hv],a⟩

theorem Qn {h:H}{L:G9}{m:Nat}(hm:m<=h.next) (hL:L.Ok m h):AW Tryz.prog 51 h.next h [.slice L.b L.n L.c] (fun v _=>v= .bool (decide (∀i,i<L.n-> -1099511627776<=L.f i/\L.f i<=1099511627776))):=by
 obtain⟨le,li,lr,ll⟩:=hL
 refine Afq.call rfl (Nat.le_refl _) ?_
 unfold a51
 (focus((try with_reducible apply wpC.to);(repeat'((conv=>whnf);first|refine Ak ?_|(apply Fork.mk<;>(intro _;try(exfalso;omega)))|fail));all_goals((conv=>whnf);try with_reducible apply At.mk)))
 refine wp_loop (fun s:Nat=>[(0,.slice L.b L.n L.c),(3,.int .i64 s)]) (fun s h1=>Quiet h.next h h1/\s<=L.n/\∀i,i<s-> -1099511627776<=L.f i/\L.f i<=1099511627776) (fun s=>L.n - s) 0 ⟨rfl,rfl,trivial⟩ ⟨AO,by omega,fun i hi=>by omega⟩ ?_
 rintro s g h1 ⟨q,hs,hp⟩ K hK
 have hnx:=q.next
 (focus((try with_reducible apply wpC.to);(repeat'((conv=>whnf);first|refine Ak ?_|(apply Fork.mk<;>(intro _;try(exfalso;omega)))|fail));all_goals((conv=>whnf);try with_reducible apply At.mk)))
 ·(refine Au ?_)
  exact Ch rfl fun k=>by have:=k s Al;omega
 ·(refine Au ?_)
  exact Ch rfl fun k=>by have:=k s Al;omega
 ·refine hK (s+1) _ _ ⟨rfl,AK rfl Al,trivial⟩ ⟨AO,by omega,fun i hi=>?_⟩ Al
  by_cases e:i=s
  ·subst e;omega
  ·exact hp i Al
 ·(refine Au ?_)
  exact CI rfl fun i hi=>hp i Al

set_option maxHeartbeats 1000000 in
theorem Sg {h:H}{T:Tab}{t:Er}{m:Nat}(hm:m<=h.next) (hT:T.Ok m h) (hv:T.Valid) (ht:t.Ok m h):
 AW Tryz.prog 16 h.next h [.agg ⟨T.cells⟩,.agg ⟨t.cells⟩] (fun v _=>∃e,v= .int .i64 e/\(e=0↔MU T t)):=by
 obtain⟨te,ti,tr,tl⟩:=hT
 have hT:T.Ok m h:=⟨te,ti,tr,tl⟩
 obtain⟨⟨ae,ai,ar,al⟩,⟨ce,ci,cr,cl⟩⟩:=ht
 have hA:t.A.Ok m h:=⟨ae,ai,ar,al⟩
 have hC:t.C.Ok m h:=⟨ce,ci,cr,cl⟩
 refine Agl.call rfl (Nat.le_refl _) ?_
 unfold a16
 (focus((try with_reducible apply wpC.to);(repeat'((conv=>whnf);first|refine Ak ?_|(apply Fork.mk<;>(intro _;try(exfalso;omega)))|fail));all_goals((conv=>whnf);try with_reducible apply At.mk)))
 apply Dw
 focus(exact Ao)
 focus(exact AQ)
 focus exact Qo (m:=m) Ah (hT.same Aq (Nat.le_refl _)) hv
 intro h1 q1 hn1
 (focus((try with_reducible apply wpC.to);(repeat'((conv=>whnf);first|refine Ak ?_|(apply Fork.mk<;>(intro _;try(exfalso;omega)))|fail));all_goals((conv=>whnf);try with_reducible apply At.mk)))
 ·(refine Au ?_)
  exact⟨15,rfl,by omega,fun k=>by have:=k.an;omega⟩
 ·(refine Au ?_)
  exact⟨15,rfl,by omega,fun k=>by have:=k.cn;omega⟩
 apply Fp
 focus(exact Ao)
 focus(exact AQ)
 focus exact Qn (L:=t.A) (m:=m) Ah (hA.same Aq (Nat.le_refl _))
 rotate_left
 ·intro hb h2 q2 hn2
  (focus((try with_reducible apply wpC.to);(repeat'((conv=>whnf);first|refine Ak ?_|(apply Fork.mk<;>(intro _;try(exfalso;omega)))|fail));all_goals((conv=>whnf);try with_reducible apply At.mk)))
  (refine Au ?_)
  exact⟨3,rfl,by omega,fun k=>absurd k.aw (of_decide_eq_false hb)⟩
 intro hb h2 q2 hn2
 (focus((try with_reducible apply wpC.to);(repeat'((conv=>whnf);first|refine Ak ?_|(apply Fork.mk<;>(intro _;try(exfalso;omega)))|fail));all_goals((conv=>whnf);try with_reducible apply At.mk)))
 apply Fp
 focus(exact Ao)
 focus(exact AQ)
 focus exact Qn (L:=t.C) (m:=m) Ah (hC.same Aq (Nat.le_refl _))
 rotate_left
 ·intro hc h3 q3 Lj
  (focus((try with_reducible apply wpC.to);(repeat'((conv=>whnf);first|refine Ak ?_|(apply Fork.mk<;>(intro _;try(exfalso;omega)))|fail));all_goals((conv=>whnf);try with_reducible apply At.mk)))
  (refine Au ?_)
  exact⟨3,rfl,by omega,fun k=>absurd k.cw (of_decide_eq_false hc)⟩
 intro hc h3 q3 Lj
 have hb:=of_decide_eq_true hb
 have hc:=of_decide_eq_true hc
 (focus((try with_reducible apply wpC.to);(repeat'((conv=>whnf);first|refine Ak ?_|(apply Fork.mk<;>(intro _;try(exfalso;omega)))|fail));all_goals((conv=>whnf);try with_reducible apply At.mk)))
 refine wp_loop (fun s:Nat=>[(2,.pointer (some ⟨h.next,0,none⟩)),(3,.pointer (some ⟨h.next+1,0,none⟩)),(5,.int .i64 s)])
  (fun s h4=>Same h.next h h4/\h.next+2<=h4.next/\s<=t.A.n/\h4.get h.next=some (.cells T.cells 31)/\h4.get (h.next+1)=some (.cells t.cells 39)/\∀i,i<s->T.Ue<=t.A.f i/\t.A.f i<=T.TT) (fun s=>t.A.n - s) 0
  ⟨rfl,rfl,rfl,trivial⟩ ⟨Aq,Ah,by omega,Aa,Aa,fun i hi=>by omega⟩ ?_
 rintro s g h4 ⟨sm,Ng,hs,g1,g2,hbi⟩ K hK
 have ai4:Ints h4 t.A.a t.A.n t.A.f:=ai.same (sm.mono hm) ar
 (focus((try with_reducible apply wpC.to);(repeat'((conv=>whnf);first|refine Ak ?_|(apply Fork.mk<;>(intro _;try(exfalso;omega)))|fail));all_goals((conv=>whnf);try with_reducible apply At.mk)))
 ·(refine Au ?_)
  exact⟨20,rfl,by omega,fun k=>by have:=k.b s Al;omega⟩
 ·(refine Au ?_)
  exact⟨20,rfl,by omega,fun k=>by have:=k.b s Al;omega⟩
 ·refine hK (s+1) _ _ ⟨rfl,rfl,AK rfl Al,trivial⟩ ⟨Aq,Ah,by omega,Aa,Aa,fun i hi=>?_⟩ Al
  by_cases e:i=s
  ·subst e;omega
  ·exact hbi i Al
 have:s=t.A.n:=by omega
 subst this
 clear hK K
 refine wp_loop (fun u:Nat=>[(2,.pointer (some ⟨h.next,0,none⟩)),(3,.pointer (some ⟨h.next+1,0,none⟩)),(6,.int .i64 u)])
  (fun u h5=>Same h.next h h5/\h.next+2<=h5.next/\u<=T.n/\h5.get h.next=some (.cells T.cells 31)/\h5.get (h.next+1)=some (.cells t.cells 39)/\∀i,i<u->(T.f i).lo<=t.A.f (T.f i).tank.toNat+t.C.f (T.f i).hull.toNat/\t.A.f (T.f i).tank.toNat+t.C.f (T.f i).hull.toNat<=(T.f i).hi) (fun u=>T.n - u) 0
  ⟨rfl,rfl,rfl,trivial⟩ ⟨Aq,Ah,by omega,Aa,Aa,fun i hi=>by omega⟩ ?_
 clear g1 g2 ai4 Ng sm g
 rintro u g h5 ⟨sm,N4,hu,g1,g2,hti⟩ K hK
 have ai5:Ints h5 t.A.a t.A.n t.A.f:=ai.same (sm.mono hm) ar
 have ci5:Ints h5 t.C.a t.C.n t.C.f:=ci.same (sm.mono hm) cr
 have ti5:JP h5 T.a T.n 4 (fun i=>(T.f i).cells):=ti.same (sm.mono hm) tr
 have hfu:u<T.n->0<=(T.f u).tank/\(T.f u).tank<T.tanks/\0<=(T.f u).hull/\(T.f u).hull<T.hulls:=fun h=>by have:=hv.f u h;omega
 have hbu:u<T.n->(-1099511627776<=t.A.f (T.f u).tank.toNat/\t.A.f (T.f u).tank.toNat<=1099511627776)/\(-1099511627776<=t.C.f (T.f u).hull.toNat/\t.C.f (T.f u).hull.toNat<=1099511627776):=fun h=>⟨hb _ (by have:=hfu h;omega),hc _ (by have:=hfu h;omega)⟩
 (focus((try with_reducible apply wpC.to);(repeat'((conv=>whnf);first|refine Ak ?_|(apply Fork.mk<;>(intro _;try(exfalso;omega)))|fail));all_goals((conv=>whnf);try with_reducible apply At.mk)))
 ·(refine Au ?_)
  exact⟨20,rfl,by omega,fun k=>by have:=k.t u Al;omega⟩
 ·(refine Au ?_)
  exact⟨20,rfl,by omega,fun k=>by have:=k.t u Al;omega⟩
 ·refine hK (u+1) _ _ ⟨rfl,rfl,AK rfl Al,trivial⟩ ⟨Aq,Ah,by omega,Aa,Aa,fun i hi=>?_⟩ Al
  by_cases e:i=u
  ·subst e;omega
  ·exact hti i Al
 ·(refine Au ?_)
  exact⟨0,rfl,fun _=>⟨by omega,by omega,hb,hc,hbi,fun i hi=>hti i Al⟩,fun _=>rfl⟩

end AE.Tryz.Agr

/- What fair measures, in plain words: changes of sign of second differences, and the sum of their amounts; and a line with numbers set between its points. -/
namespace AE.Fair
open Go AE

structure MS where
 sign:Int
 ch:Int
 Ju:Int
def Lh (s d:Int):Int:=if 0<d then 1 else if d<0 then 2 else s
def MS.step (s:MS) (d:Int):MS:=⟨Lh s.sign d,if s.sign≠0/\Lh s.sign d≠s.sign then s.ch+1 else s.ch,s.Ju+max d (-d)⟩
def sd (f:Nat->Int) (i:Nat):Int:=f (i - 1) - 2*f i+f (i+1)
def ms (f:Nat->Int):Nat->MS
 |0=>⟨0,0,0⟩
 |k+1=>(ms f k).step (sd f (k+1))
def changes (f:Nat->Int) (n:Nat):Int:=(ms f (n - 2)).ch
def Ju (f:Nat->Int) (n:Nat):Int:=(ms f (n - 2)).Ju
theorem mM {f:Nat->Int}{B:Int}:∀{k:Nat},(∀i,i<=k+1-> -B<=f i/\f i<=B)->0<=(ms f k).Ju/\(ms f k).Ju<=4*B*k/\0<=(ms f k).ch/\(ms f k).ch<=k/\0<=(ms f k).sign/\(ms f k).sign<=2
 |0,_=>by simp[ms]
 | k+1,h=>by
   have ih:=mM (f:=f) (B:=B) (k:=k) fun i hi=>h i Al
   have a:=h k Al
   have b:=h (k+1) Al
   have c:=h (k+2) Al
   have e:sd f (k+1)=f k - 2*f (k+1)+f (k+2):=by simp[sd]
   obtain⟨h1,h2,h3,h4,h5,h6⟩:=ih
   have hd:4*B* ((k+1:Nat):Int)=4*B*k+4*B:=by push_cast;rw[Int.mul_add,Int.mul_one]
   have hm:0<=max (sd f (k+1)) (-(sd f (k+1)))/\max (sd f (k+1)) (-(sd f (k+1)))<=4*B:=by rw[e];omega
   refine⟨?_,?_,?_,?_,?_,?_⟩<;>simp only[ms,MS.step]
   ·omega
   ·rw[hd];omega
   ·split<;>omega
   ·split<;>omega
   ·unfold Lh;split
    ·omega
    ·split<;>omega
   ·unfold Lh;split
    ·omega
    ·split<;>omega

def Alike (m:Int) (a b:MS):Prop:=a.sign=b.sign/\a.ch=b.ch/\b.Ju=m*a.Ju
theorem Alike.zero {m:Int}{a b:MS}(h:Alike m a b):Alike m (a.step 0) b:=by
 obtain⟨h1,h2,h3⟩:=h
 refine⟨?_,?_,?_⟩<;>simp[MS.step,Lh,h1,h2,h3]
theorem Alike.both {m d:Int}{a b:MS}(hm:1<=m) (h:Alike m a b):Alike m (a.step d) (b.step (m*d)):=by
 obtain⟨h1,h2,h3⟩:=h
 have p1:0<m*d↔0<d:=⟨fun h=>Int.lt_of_not_ge fun hd=>by have:=Int.mul_nonneg (a:=m) (b:= -d) Al Al;rw[Int.mul_neg]at this;omega,fun h=>Int.mul_pos Al h⟩
 have p2:m*d<0↔d<0:=⟨fun h=>Int.lt_of_not_ge fun hd=>by have:=Int.mul_nonneg (a:=m) (b:=d) Al Al;omega,fun h=>by have:=Int.mul_pos (a:=m) (b:= -d) Al Al;rw[Int.mul_neg]at this;omega⟩
 have es:Lh b.sign (m*d)=Lh a.sign d:=by simp only[Lh,p1,p2,h1]
 have hb:max (m*d) (-(m*d))=m*max d (-d):=by
  rcases Int.le_total 0 d with hd|hd
  ·have:=Int.mul_nonneg (a:=m) (b:=d) Al hd
   rw[Int.max_eq_left Al,Int.max_eq_left Al]
  ·have:=Int.mul_nonneg (a:=m) (b:= -d) Al Al
   rw[Int.mul_neg]at this
   rw[Int.max_eq_right Al,Int.max_eq_right Al,Int.mul_neg]
 refine⟨?_,?_,?_⟩
 ·simp only[MS.step,es]
 ·simp only[MS.step,es,h1,h2]
 ·simp only[MS.step,hb,h3,Int.mul_add]

structure Jp (C g:Nat->Int) (F:Nat->Int) (m n:Nat):Prop where
 pos:1<=m
 fall:∀i,i<n->C (i+1)=C i - m*F i
 at_:∀i j,i<n->j<=m->g (i*m+j)=C i - j*F i
theorem Jp.Ada {C g F:Nat->Int}{m n:Nat}(h:Jp C g F m n) {i j:Nat}(hi:i<n) (hj:j+1<m):sd g (i*m+j+1)=0:=by
 have e1:=h.at_ i j hi Al
 have e2:=h.at_ i (j+1) hi Al
 have e3:=h.at_ i (j+2) hi Al
 simp only[sd,Nat.add_sub_cancel]
 rw[show i*m+j+1=i*m+(j+1) by omega,show i*m+(j+1)+1=i*m+(j+2) by omega,e1,e2,e3]
 have q1:((j+1:Nat):Int) *F i=j*F i+F i:=by push_cast;rw[Int.add_mul,Int.one_mul]
 have q2:((j+2:Nat):Int) *F i=j*F i+2*F i:=by push_cast;simp only[Int.add_mul];omega
 rw[q1,q2]
 omega
theorem Jp.Adb {C g F:Nat->Int}{m n:Nat}(h:Jp C g F m n) {i:Nat}(hi:i+1<n):sd g ((i+1) *m)=F i - F (i+1)/\sd C (i+1)=m*sd g ((i+1) *m):=by
 have hm:=h.pos
 have e1:=h.at_ i (m - 1) Al Al
 have e2:=h.at_ (i+1) 0 hi Al
 have e3:=h.at_ (i+1) 1 hi Al
 have f1:=h.fall i Al
 have f2:=h.fall (i+1) hi
 have q:(i+1) *m - 1=i*m+(m - 1):=by rw[Nat.add_mul,Nat.one_mul];omega
 have hs:sd g ((i+1) *m)=F i - F (i+1):=by
  simp only[sd]
  rw[q,e1,e3,show(i+1) *m=(i+1) *m+0 by omega,e2,f1]
  have:((m - 1:Nat):Int) *F i=m*F i - F i:=by
   rw[Int.ofNat_sub hm,Int.sub_mul];simp
  rw[this]
  simp only[Int.ofNat_zero,Int.zero_mul,Int.ofNat_one,Int.one_mul]
  omega
 refine⟨hs,?_⟩
 rw[hs,Int.mul_sub]
 simp only[sd,Nat.add_sub_cancel]
 rw[f2,f1]
 omega
theorem Jp.mL {C g F:Nat->Int}{m n:Nat}(h:Jp C g F m n):∀(i j:Nat),i<n->j<m->Alike m (ms g (i*m+j)) (ms C i)
 |0,0,_,_=>by simp[Alike,ms]
 | i+1,0,hi,hj=>by
   have ih:=Jp.mL h i (m - 1) Al Al
   have s:=h.Adb hi
   have q:(i+1) *m+0=(i*m+(m - 1))+1:=by rw[Nat.add_mul,Nat.one_mul];omega
   have q':i*m+(m - 1)+1=(i+1) *m:=by omega
   rw[q]
   simp only[ms]
   rw[q',s.2]
   exact ih.both (by have:=h.pos;omega)
 | i,j+1,hi,hj=>by
   have ih:=Jp.mL h i j hi Al
   rw[show i*m+(j+1)=i*m+j+1 by omega]
   simp only[ms]
   rw[h.Ada hi hj]
   exact ih.zero
theorem Jp.law {C g F:Nat->Int}{m n:Nat}(h:Jp C g F m n) (hn:1<=n):changes g (n*m+1)=changes C (n+1)/\Ju C (n+1)=m*Ju g (n*m+1):=by
 have a:=h.mL (n - 1) (m - 1) Al (by have:=h.pos;omega)
 have hm:=h.pos
 have q:(n - 1) *m+(m - 1)=n*m+1 - 2:=by
  obtain⟨k,rfl⟩:=Nat.exists_eq_add_of_le hn
  rw[show 1+k - 1=k by omega,Nat.add_mul,Nat.one_mul];omega
 rw[q]at a
 unfold changes Ju
 rw[show n+1 - 2=n - 1 by omega]
 exact⟨a.2.1,a.2.2⟩
end AE.Fair

/- Walks of fair: what it measures. -/
namespace AE.Tryz
open Go AE Go.Proofs AE.Fair
set_option maxRecDepth 100000
set_option linter.unusedVariables false

theorem Ec {g:FuncId}{first CL args xs:List Value}{lo:Nat}{h:H}{R:Value->H->Prop}(hc:AW Tryz.prog g lo h xs R) (e:first++args++CL=xs):∃v h',R v h'/\CX Tryz.prog (.func (.func g) ⟨first⟩ ⟨CL⟩) lo h args v h':=by
 obtain⟨v,h',r,a⟩:=hc
 subst e
 exact⟨v,h',r,a.Vv⟩
theorem CJ {fv:Value}{args:List Value}{lo lo':Nat}{h:H}{R:Value->H->Prop}(hc:∃v h',R v h'/\CX Tryz.prog fv lo h args v h') (hl:lo'<=lo):∃v h',R v h'/\CX Tryz.prog fv lo' h args v h':=
 let⟨v,h',r,a⟩:=hc;⟨v,h',r,a.mono hl⟩

structure G9 where
 n:Nat
 f:Nat->Int
 b:Option Addr
 a:Addr
 c:Nat
structure G9.Ok (T:G9) (m:Nat) (h:H):Prop where
 e:0<T.n->T.b=some T.a
 i:Ints h T.a T.n T.f
 r:0<T.n->T.a.block<m
 l:T.n<=9223372036854775807
theorem G9.Ok.same {T:G9}{m m':Nat}{h h':H}(k:T.Ok m h) (s:Same m h h') (hm:m<=m'):T.Ok m' h':=
 ⟨k.e,k.i.same s k.r,fun h=>by have:=k.r h;omega,k.l⟩

theorem YL {h:H}{T:G9}{m:Nat}(hm:m<=h.next) (hT:T.Ok m h) {pf:Value}{p:Nat->Bool}(hy:∀i h1,i<T.n->Quiet h.next h h1->∃v h2,v= .bool (p i)/\CX Tryz.prog pf h1.next h1 [.int .i64 (T.f i)] v h2):
 AW Tryz.prog 205 h.next h [.slice T.b T.n T.c,pf] (fun v _=>∃z,v= .int .i64 z/\(0<=z↔∃i,i<T.n/\p i=true)):=by
 obtain⟨e1,i1,r1,l1⟩:=hT
 refine bT.call rfl (Nat.le_refl _) ?_
 unfold uX
 (focus((try with_reducible apply wpC.to);(repeat'((conv=>whnf);first|refine Ak ?_|(apply Fork.mk<;>(intro _;try(exfalso;omega)))|fail));all_goals((conv=>whnf);try with_reducible apply At.mk)))
 refine wp_loop (fun s:Nat=>[(0,.slice T.b T.n T.c),(1,pf),(7,.int .i64 T.n),(8,.int .i64 s)]) (fun s h1=>Quiet h.next h h1/\s<=T.n/\∀i,i<s->p i=false) (fun s=>T.n - s) 0 ⟨rfl,rfl,rfl,rfl,trivial⟩ ⟨?_,by omega,fun i hi=>by omega⟩ ?_
 ·(exact AO)
 rintro s g h1 ⟨q,hs,hp⟩ K hK
 have hnx:=q.next
 (focus((try with_reducible apply wpC.to);(repeat'((conv=>whnf);first|refine Ak ?_|(apply Fork.mk<;>(intro _;try(exfalso;omega)))|fail));all_goals((conv=>whnf);try with_reducible apply At.mk)))
 ·apply Dx
  focus exact CJ (hy s _ Al AO) Ah
  rintro _ h2 rfl q2
  have hnx2:=q2.next
  cases hb:p s with
  | true=>
    (focus((try with_reducible apply wpC.to);(repeat'((conv=>whnf);first|refine Ak ?_|(apply Fork.mk<;>(intro _;try(exfalso;omega)))|fail));all_goals((conv=>whnf);try with_reducible apply At.mk)))
    (refine Au ?_)
    exact⟨_,rfl,⟨fun _=>⟨s,by omega,hb⟩,fun _=>by omega⟩⟩
  | false=>
    (focus((try with_reducible apply wpC.to);(repeat'((conv=>whnf);first|refine Ak ?_|(apply Fork.mk<;>(intro _;try(exfalso;omega)))|fail));all_goals((conv=>whnf);try with_reducible apply At.mk)))
    refine hK (s+1) _ _ ⟨rfl,rfl,rfl,AK rfl Al,trivial⟩ ⟨AO,by omega,fun i hi=>?_⟩ Al
    by_cases e:i=s
    ·subst e;exact hb
    ·exact hp i Al
 ·(refine Au ?_)
  refine⟨_,rfl,⟨fun h=>by omega,fun⟨i,hi,hpi⟩=>?_⟩⟩
  rw[hp i Al]at hpi
  cases hpi
theorem kB {h:H}{T:G9}{m:Nat}(hm:m<=h.next) (hT:T.Ok m h) {pf:Value}{p:Nat->Bool}(hy:∀i h1,i<T.n->Quiet h.next h h1->∃v h2,v= .bool (p i)/\CX Tryz.prog pf h1.next h1 [.int .i64 (T.f i)] v h2):
 AW Tryz.prog 118 h.next h [.slice T.b T.n T.c,pf] (fun v _=>v= .bool (decide (∃i,i<T.n/\p i=true))):=by
 refine bU.call rfl (Nat.le_refl _) ?_
 unfold uY
 (focus((try with_reducible apply wpC.to);(repeat'((conv=>whnf);first|refine Ak ?_|(apply Fork.mk<;>(intro _;try(exfalso;omega)))|fail));all_goals((conv=>whnf);try with_reducible apply At.mk)))
 apply Ar
 focus(exact Ao)
 focus(exact AQ)
 focus exact YL (m:=m) Ah (hT.same Aq (Nat.le_refl _)) fun i h1 hi q=>hy i h1 hi (Quiet.trans AO (q.mono Ah))
 rintro _ h1 ⟨z,rfl,hz⟩ q hn
 (focus((try with_reducible apply wpC.to);(repeat'((conv=>whnf);first|refine Ak ?_|(apply Fork.mk<;>(intro _;try(exfalso;omega)))|fail));all_goals((conv=>whnf);try with_reducible apply At.mk)))
 all_goals(refine Au ?_)
 ·exact CI rfl (hz.1 Al)
 ·exact Ch rfl (fun h=>by have:=hz.2 h;omega)

theorem Adj {h:H}{x lo hi:Int}{r s:Nat}{e1 e2:TypeId}(hr:h.get r=some (.cells [.int .i64 lo] e1)) (hs:h.get s=some (.cells [.int .i64 hi] e2)):AW Tryz.prog 138 h.next h [.int .i64 x,.pointer (some ⟨r,0,none⟩),.pointer (some ⟨s,0,none⟩)] (fun v _=>v= .bool (decide (x<lo\/hi<x))):=by
 refine Aad.call rfl (Nat.le_refl _) ?_
 unfold a138
 (focus((try with_reducible apply wpC.to);(repeat'((conv=>whnf);first|refine Ak ?_|(apply Fork.mk<;>(intro _;try(exfalso;omega)))|fail));all_goals((conv=>whnf);try with_reducible apply At.mk)))
 all_goals((refine Au ?_);first|exact CI rfl Al|exact Ch rfl Al)
theorem PR {h:H}{T:G9}{m:Nat}{lo hi:Int}(hm:m<=h.next) (hT:T.Ok m h):AW Tryz.prog 66 h.next h [.int .i64 lo,.int .i64 hi,.slice T.b T.n T.c] (fun v _=>v= .bool (decide (∀i,i<T.n->lo<=T.f i/\T.f i<=hi))):=by
 refine Afc.call rfl (Nat.le_refl _) ?_
 unfold a66
 (focus((try with_reducible apply wpC.to);(repeat'((conv=>whnf);first|refine Ak ?_|fail));all_goals((conv=>whnf);try with_reducible apply At.mk)))
 apply Ar
 focus(exact Ao)
 focus(exact AQ)
 focus exact kB (m:=m) (p:=fun i=>decide (T.f i<lo\/hi<T.f i)) Ah (hT.same Aq (Nat.le_refl _)) fun i h1 hi q=>Ec (Adj ((q.same _ Ah).trans Aa) ((q.same _ Ah).trans Aa)) rfl
 intro w h1 hw q hn
 by_cases hd:∃i,i<T.n/\decide (T.f i<lo\/hi<T.f i)=true
 ·rw[decide_eq_true hd]at hw
  subst hw
  obtain⟨i,hi,hp⟩:=hd
  simp only[decide_eq_true_eq]at hp
  (focus((try with_reducible apply wpC.to);(repeat'((conv=>whnf);first|refine Ak ?_|fail));all_goals((conv=>whnf);try with_reducible apply At.mk)))
  (refine Au ?_)
  exact Ch rfl fun hc=>by have:=hc i hi;omega
 ·rw[decide_eq_false hd]at hw
  subst hw
  (focus((try with_reducible apply wpC.to);(repeat'((conv=>whnf);first|refine Ak ?_|fail));all_goals((conv=>whnf);try with_reducible apply At.mk)))
  (refine Au ?_)
  exact CI rfl fun i hi=>Classical.byContradiction fun hc=>hd ⟨i,hi,by simp only[decide_eq_true_eq];omega⟩
theorem CB {G G':Prop}(g:G') (t:G'->G:=by((apply Ar);(focus exact Ao);(focus exact AQ);(focus((apply PR;rotate_left;(focus(apply G9.Ok.same;(focus assumption);(focus exact Aq);(focus exact Nat.le_refl _)));(focus exact Ah)))))):G:=t g

def qQ (s d:Int):Int:=if s≠0/\Lh s d≠s then 1 else 0
theorem Adu (f:Nat->Int) (k:Nat):(ms f (k+1)).ch=(ms f k).ch+qQ (ms f k).sign (sd f (k+1)):=by
 simp only[ms,MS.step,qQ];split<;>omega
theorem sO (f:Nat->Int) (k:Nat):(ms f (k+1)).Ju=(ms f k).Ju+max (sd f (k+1)) (-(sd f (k+1))):=rfl
theorem Abw (s d:Int):0<=qQ s d/\qQ s d<=1:=by unfold qQ;split<;>omega
theorem xJ {h:H}{s d:Int}:AW Tryz.prog 139 h.next h [.agg ⟨[.int .i64 s]⟩,.int .i64 d] (fun v _=>v= .tuple #[.agg ⟨[.int .i64 (Lh s d)]⟩,.int .i64 (qQ s d)]):=by
 refine Aac.call rfl (Nat.le_refl _) ?_
 unfold a139 Lh qQ
 by_cases h1:0<d
 ·(focus((try with_reducible apply wpC.to);(repeat'((conv=>whnf);first|refine Ak ?_|(apply Fork.mk<;>(intro _;try(exfalso;omega)))|fail));all_goals((conv=>whnf);try with_reducible apply At.mk)))
  all_goals(refine Au ?_)
  all_goals(simp only[Lh,h1,if_true];first|rw[if_pos Al]|rw[if_neg Al])
 ·by_cases h2:d<0
  ·(focus((try with_reducible apply wpC.to);(repeat'((conv=>whnf);first|refine Ak ?_|(apply Fork.mk<;>(intro _;try(exfalso;omega)))|fail));all_goals((conv=>whnf);try with_reducible apply At.mk)))
   all_goals(refine Au ?_)
   all_goals(simp only[Lh,h1,h2,if_true,if_false];first|rw[if_pos Al]|rw[if_neg Al])
  ·(focus((try with_reducible apply wpC.to);(repeat'((conv=>whnf);first|refine Ak ?_|(apply Fork.mk<;>(intro _;try(exfalso;omega)))|fail));all_goals((conv=>whnf);try with_reducible apply At.mk)))
   all_goals(refine Au ?_)
   all_goals(simp only[Lh,h1,h2,if_false];first|rw[if_pos Al]|rw[if_neg Al])
theorem AJ {G G':Prop}(g:G') (t:G'->G:=by((apply Ar);(focus exact Ao);(focus exact AQ);(focus((apply xJ))))):G:=t g

set_option maxHeartbeats 1000000 in
theorem i4 {h:H}{T:G9}{m:Nat}(hm:m<=h.next) (hT:T.Ok m h) (hb:∀i,i<T.n-> -1000000<=T.f i/\T.f i<=1000000) (hn:T.n<=4096):AW Tryz.prog 67 h.next h [.slice T.b T.n T.c] (fun v _=>v= .tuple #[.int .i64 (changes T.f T.n),.int .i64 (Ju T.f T.n)]):=by
 have hT':=hT
 obtain⟨e1,i1,r1,l1⟩:=hT
 refine Afb.call rfl (Nat.le_refl _) ?_
 unfold a67
 (focus((try with_reducible apply wpC.to);(repeat'((conv=>whnf);first|refine Ak ?_|(apply Fork.mk<;>(intro _;try(exfalso;omega)))|((refine AJ ?_);first|((first|apply Ae|apply Ac|apply Ad)<;>intro _ _ _ _<;>try contradiction)|(apply Ab;intro _ _ _))|fail));all_goals((conv=>whnf);try with_reducible apply At.mk)))
 refine wp_loop (fun s:Nat=>[(0,.slice T.b T.n T.c),(4,.int .i64 (ms T.f s).ch),(5,.int .i64 (ms T.f s).Ju),(6,.pointer (some ⟨h.next+4,0,none⟩)),(7,.int .i64 ((s:Int)+1))])
  (fun s h1=>Same h.next h h1/\h.next+5<=h1.next/\h1.get (h.next+4)=some (.cells [.int .i64 (ms T.f s).sign] 234)/\s<=T.n - 2) (fun s=>T.n - s) 0 ⟨rfl,rfl,rfl,rfl,rfl,trivial⟩ ⟨Aq,Ah,Aa,by omega⟩ ?_
 rintro s g h1 ⟨q,hn1,hg,hs⟩ K hK
 by_cases hlt:s+2<T.n
 ·have b1:=hb s Al
  have b2:=hb (s+1) Al
  have b3:=hb (s+2) Al
  have bd:=mM (f:=T.f) (B:=1000000) (k:=s) fun i hi=>hb i Al
  have hd:sd T.f (s+1)=T.f s - 2*T.f (s+1)+T.f (s+2):=by simp[sd]
  have e0:T.f ((s:Int)+1 - 1).toNat=T.f s:=congrArg T.f Al
  have e3:T.f ((s:Int)+1+1).toNat=T.f (s+2):=congrArg T.f Al
  have hx:T.f ((s:Int)+1 - 1).toNat - 2*T.f (s+1)+T.f ((s:Int)+1+1).toNat=sd T.f (s+1):=by rw[hd,e0,e3]
  have hc:=Abw (ms T.f s).sign (T.f ((s:Int)+1 - 1).toNat - 2*T.f (s+1)+T.f ((s:Int)+1+1).toNat)
  (focus((try with_reducible apply wpC.to);(repeat'((conv=>whnf);first|refine Ak ?_|(apply Fork.mk<;>(intro _;try(exfalso;omega)))|((refine AJ ?_);first|((first|apply Ae|apply Ac|apply Ad)<;>intro _ _ _ _<;>try contradiction)|(apply Ab;intro _ _ _))|fail));all_goals((conv=>whnf);try with_reducible apply At.mk)))
  rw[hx]
  refine hK (s+1) _ _ ⟨rfl,AK rfl (Adu T.f s).symm,AK rfl (sO T.f s).symm,rfl,AK rfl Al,trivial⟩ ⟨Aq,Ah,?_,by omega⟩ Al
  show _=some (BQ.cells [.int .i64 (Lh (ms T.f s).sign (sd T.f (s+1)))] 234)
  (exact Aa)
 ·(focus((try with_reducible apply wpC.to);(repeat'((conv=>whnf);first|refine Ak ?_|(apply Fork.mk<;>(intro _;try(exfalso;omega)))|((refine AJ ?_);first|((first|apply Ae|apply Ac|apply Ad)<;>intro _ _ _ _<;>try contradiction)|(apply Ab;intro _ _ _))|fail));all_goals((conv=>whnf);try with_reducible apply At.mk)))
  (refine Au ?_)
  have e:s=T.n - 2:=by omega
  subst e
  rfl
theorem Gv {G G':Prop}(g:G') (t:G'->G:=by((apply Ar);(focus exact Ao);(focus exact AQ);(focus((apply i4;rotate_left;(focus(apply G9.Ok.same;(focus assumption);(focus exact Aq);(focus exact Nat.le_refl _)));(focus assumption);(focus omega);(focus exact Ah)))))):G:=t g

end AE.Tryz

/- The fairest line within spots, in plain words: what it costs to go on, and that no line costs less. -/
namespace AE.Fair
open Go AE

def Da (f:Nat->Int):Nat->Nat × Int
 |0=>(0,f 0)
 |k+1=>if f (k+1)<(Da f k).2 then(k+1,f (k+1))else Da f k
theorem PE (f:Nat->Int):∀k c,c<=k->(Da f k).2<=f c
 | 0, c, h => by obtain rfl:c=0:=by omega
                 exact Int.le_refl _
 | k+1,c,h=>by
   unfold Da
   by_cases e:c=k+1
   ·subst e
    split
    ·exact Int.le_refl _
    ·omega
   ·have:=PE f k c Al
    split
    ·dsimp only;omega
    ·exact this
theorem IC (f:Nat->Int):∀k,(Da f k).1<=k/\f (Da f k).1=(Da f k).2
 |0=>⟨Nat.le_refl _,rfl⟩
 | k+1=>by
   have:=IC f k
   unfold Da
   split
   ·exact⟨Nat.le_refl _,rfl⟩
   ·exact⟨by omega,this.2⟩
theorem OC {f g:Nat->Int}:∀k,(∀c,c<=k->f c=g c)->Da f k=Da g k
 |0,h=>by unfold Da;rw[h 0 (Nat.le_refl _)]
 |k+1,h=>by unfold Da;rw[OC k fun c hc=>h c Al,h (k+1) (Nat.le_refl _)]

def turns (s d:Int):Int:=if s≠0/\Lh s d≠s then 1 else 0
def pay (t s d:Int):Int:=max d (-d)+t*turns s d
theorem mD {t s d B:Int}(ht:0<=t) (hd: -B<=d/\d<=B):0<=pay t s d/\pay t s d<=B+t:=by
 unfold pay turns
 split
 ·rw[Int.mul_one];omega
 ·rw[Int.mul_zero];omega
def mc (t:Int) (m:MS):Int:=m.Ju+t*m.ch
theorem eT (t:Int) (m:MS) (d:Int):mc t (m.step d)=mc t m+pay t m.sign d:=by
 simp only[mc,MS.step,pay,turns]
 split
 ·rw[Int.mul_add];omega
 ·simp only[Int.mul_zero];omega
theorem Yl {f g:Nat->Int}:∀{k:Nat},(∀j,j<=k+1->f j=g j)->ms f k=ms g k
 |0,_=>rfl
 | k+1,h=>by
   have e:sd f (k+1)=sd g (k+1):=by
    simp only[sd,Nat.add_sub_cancel]
    rw[h k Al,h (k+1) Al,h (k+1+1) Al]
   simp only[ms,e,Yl (k:=k) fun j hj=>h j Al]

section
variable (t:Int) (lo:Nat->Int) (w:Nat->Nat)
def dif (i a b c:Nat):Int:=lo (i - 1)+a - 2* (lo i+b)+(lo (i+1)+c)
def dp:Nat->Nat->Nat->Nat->Int->Int
 |0,_,_,_,_=>0
 |k+1,i,a,b,s=>(Da (fun c=>pay t s (dif lo i a b c)+dp k (i+1) b c (Lh s (dif lo i a b c))) (w (i+1) - 1)).2
def J8 (k i a b:Nat) (s:Int):Nat:=(Da (fun c=>pay t s (dif lo i a b c)+dp t lo w k (i+1) b c (Lh s (dif lo i a b c))) (w (i+1) - 1)).1
def Hj (n:Nat):Nat × Int:=Da (fun k=>dp t lo w (n - 2) 1 (k / w 1) (k%w 1) 0) (w 0*w 1 - 1)
end
variable {t:Int}{lo:Nat->Int}{w:Nat->Nat}
structure Good (n:Nat) (t:Int) (lo:Nat->Int) (w:Nat->Nat):Prop where
 n1:1<=n
 n2:n<=24
 t1:0<=t
 t2:t<=1000000
 lo1:∀i,i<n-> -1000000<=lo i/\lo i+(w i:Int) - 1<=1000000
 w1:∀i,i<n->1<=w i/\w i<=5
theorem Good.Abo {n:Nat}(g:Good n t lo w) {i a b c:Nat}(h1:1<=i) (h2:i+1<n) (ha:a<w (i - 1)) (hb:b<w i) (hc:c<w (i+1)): -4000000<=dif lo i a b c/\dif lo i a b c<=4000000:=by
 have x:=g.lo1 (i - 1) Al
 have y:=g.lo1 i Al
 have z:=g.lo1 (i+1) Al
 unfold dif
 omega
theorem Good.wo {n:Nat}(g:Good n t lo w):∀(k i a b:Nat) (s:Int),1<=i->i+k<n->a<w (i - 1)->b<w i->0<=dp t lo w k i a b s/\dp t lo w k i a b s<=5000000*k
 |0,_,_,_,_,_,_,_,_=>by simp[dp]
 | k+1,i,a,b,s,h1,h2,ha,hb=>by
   have hw:=g.w1 (i+1) Al
   obtain⟨e1,e2⟩:=IC (fun c=>pay t s (dif lo i a b c)+dp t lo w k (i+1) b c (Lh s (dif lo i a b c))) (w (i+1) - 1)
   simp only[dp]
   rw[<-e2]
   generalize (Da _ (w (i+1) - 1)).1=c at e1
   have p:=mD (t:=t) (s:=s) g.t1 (g.Abo (c:=c) h1 Al ha hb Al)
   have q:=Good.wo g k (i+1) b c (Lh s (dif lo i a b c)) Al Al hb Al
   have:=g.t2
   push_cast
   omega
theorem wm {n:Nat}{x:Nat->Int}{o:Nat->Nat}(hx:∀j,j<n->x j=lo j+o j/\o j<w j):∀(k i:Nat),1<=i->i+k<n->dp t lo w k i (o (i - 1)) (o i) (ms x (i - 1)).sign<=mc t (ms x (i - 1+k)) - mc t (ms x (i - 1))
 |0,i,h1,h2=>by simp[dp]
 | k+1,i,h1,h2=>by
   have ih:=wm hx k (i+1) Al Al
   have ed:dif lo i (o (i - 1)) (o i) (o (i+1))=sd x i:=by
    unfold dif sd
    rw[(hx (i - 1) Al).1,(hx i Al).1,(hx (i+1) Al).1]
   have em:ms x i=(ms x (i - 1)).step (sd x i):=by
    obtain⟨j,rfl⟩:∃j,i=j+1:=⟨i - 1,by omega⟩
    rfl
   have l:=PE (fun c=>pay t (ms x (i - 1)).sign (dif lo i (o (i - 1)) (o i) c)+dp t lo w k (i+1) (o i) c (Lh (ms x (i - 1)).sign (dif lo i (o (i - 1)) (o i) c))) (w (i+1) - 1) (o (i+1)) (by have:=(hx (i+1) Al).2;omega)
   simp only[ed]at l
   simp only[Nat.add_sub_cancel]at ih
   have es:(ms x i).sign=Lh (ms x (i - 1)).sign (sd x i):=by rw[em];rfl
   have ec:mc t (ms x i)=mc t (ms x (i - 1))+pay t (ms x (i - 1)).sign (sd x i):=by rw[em];exact eT _ _ _
   rw[es]at ih
   simp only[dp]
   rw[show i - 1+(k+1)=i+k by omega]
   omega
theorem qa {n:Nat}(g:Good n t lo w) (hn:2<=n) {x:Nat->Int}(hx:∀j,j<n->lo j<=x j/\x j<=lo j+(w j:Int) - 1):(Hj t lo w n).2<=mc t (ms x (n - 2)):=by
 have ho:∀j,j<n->x j=lo j+((x j - lo j).toNat:Nat)/\(x j - lo j).toNat<w j:=fun j hj=>by
  have:=hx j hj;omega
 have l:=wm (t:=t) ho (n - 2) 1 (Nat.le_refl _) Al
 have h0:=(ho 0 Al).2
 have h1:=(ho 1 Al).2
 simp only[Nat.sub_self,Nat.zero_add]at l
 have z:mc t (ms x 0)=0:=by simp[mc,ms]
 have z':(ms x 0).sign=0:=rfl
 rw[z,z']at l
 have hk:(x 0 - lo 0).toNat*w 1+(x 1 - lo 1).toNat<w 0*w 1:=by
  calc(x 0 - lo 0).toNat*w 1+(x 1 - lo 1).toNat<(x 0 - lo 0).toNat*w 1+w 1:=by omega
   _=((x 0 - lo 0).toNat+1) *w 1:=by rw[Nat.add_mul,Nat.one_mul]
   _<=w 0*w 1:=Nat.mul_le_mul_right _ h0
 have m:=PE (fun k=>dp t lo w (n - 2) 1 (k / w 1) (k%w 1) 0) (w 0*w 1 - 1) ((x 0 - lo 0).toNat*w 1+(x 1 - lo 1).toNat) Al
 have e1:((x 0 - lo 0).toNat*w 1+(x 1 - lo 1).toNat) / w 1=(x 0 - lo 0).toNat:=by
  rw[Nat.mul_comm,Nat.mul_add_div Al,Nat.div_eq_of_lt h1,Nat.add_zero]
 have e2:((x 0 - lo 0).toNat*w 1+(x 1 - lo 1).toNat)%w 1=(x 1 - lo 1).toNat:=by
  rw[Nat.mul_comm,Nat.mul_add_mod,Nat.mod_eq_of_lt h1]
 simp only[e1,e2]at m
 unfold Hj
 omega

structure Path (n:Nat) (t:Int) (lo:Nat->Int) (w:Nat->Nat) (T:Int) (x:Nat->Int) (i a b:Nat) (s:Int):Prop where
 i1:1<=i
 i2:i<n
 a1:a<w (i - 1)
 b1:b<w i
 xa:x (i - 1)=lo (i - 1)+a
 xb:x i=lo i+b
 inn:∀j,j<=i->lo j<=x j/\x j<=lo j+(w j:Int) - 1
 sg:(ms x (i - 1)).sign=s
 sum:mc t (ms x (i - 1))+dp t lo w (n - 1 - i) i a b s=T
theorem inR (l:Int) (A W:Nat) (h:A<W):l<=l+(A:Int)/\l+(A:Int)<=l+(W:Int) - 1:=by omega
theorem aN {n:Nat}(g:Good n t lo w) (hn:2<=n) {x:Nat->Int}(h0:x 0=lo 0+((Hj t lo w n).1 / w 1:Nat)) (h1:x 1=lo 1+((Hj t lo w n).1%w 1:Nat)):
 Path n t lo w (Hj t lo w n).2 x 1 ((Hj t lo w n).1 / w 1) ((Hj t lo w n).1%w 1) 0:=by
 have hw0:=g.w1 0 Al
 have hw1:=g.w1 1 Al
 obtain⟨e1,e2⟩:=IC (fun k=>dp t lo w (n - 2) 1 (k / w 1) (k%w 1) 0) (w 0*w 1 - 1)
 have hp:0<w 0*w 1:=Nat.mul_pos Al Al
 have hlt:(Hj t lo w n).1<w 0*w 1:=by unfold Hj;omega
 have ha:(Hj t lo w n).1 / w 1<w 0:=Nat.div_lt_of_lt_mul (by rw[Nat.mul_comm];exact hlt)
 have hb:(Hj t lo w n).1%w 1<w 1:=Nat.mod_lt _ Al
 refine⟨Nat.le_refl _,by omega,ha,hb,h0,h1,fun j hj=>?_,rfl,?_⟩
 ·rcases Nat.eq_zero_or_pos j with rfl|hj0
  ·rw[h0];exact inR _ _ _ ha
  ·obtain rfl:j=1:=by omega
   rw[h1];exact inR _ _ _ hb
 ·have z:mc t (ms x 0)=0:=by simp[mc,ms]
  rw[show 1 - 1=0 from rfl,z,Int.zero_add,show n - 1 - 1=n - 2 by omega]
  exact e2
theorem Path.next {n:Nat}{T:Int}{x y:Nat->Int}{i a b:Nat}{s:Int}(g:Good n t lo w) (p:Path n t lo w T x i a b s) (hi:i+1<n) (hy:∀j,j<=i->y j=x j) (hc:y (i+1)=lo (i+1)+(J8 t lo w (n - 2 - i) i a b s:Nat)):
 Path n t lo w T y (i+1) b (J8 t lo w (n - 2 - i) i a b s) (Lh s (dif lo i a b (J8 t lo w (n - 2 - i) i a b s)))/\J8 t lo w (n - 2 - i) i a b s<w (i+1):=by
 have hw:=g.w1 (i+1) hi
 have i1:=p.i1
 obtain⟨e1,e2⟩:=IC (fun c=>pay t s (dif lo i a b c)+dp t lo w (n - 2 - i) (i+1) b c (Lh s (dif lo i a b c))) (w (i+1) - 1)
 have hlt:J8 t lo w (n - 2 - i) i a b s<w (i+1):=by unfold J8;omega
 have ex:ms y (i - 1)=ms x (i - 1):=Yl fun j hj=>hy j Al
 have ed:sd y i=dif lo i a b (J8 t lo w (n - 2 - i) i a b s):=by
  unfold sd dif
  rw[hy _ Al,hy _ (Nat.le_refl _),hc,p.xa,p.xb]
 have em:ms y i=(ms y (i - 1)).step (sd y i):=by
  obtain⟨j,rfl⟩:∃j,i=j+1:=⟨i - 1,by omega⟩
  rfl
 have hs:=p.sum
 rw[show n - 1 - i=(n - 2 - i)+1 by omega]at hs
 simp only[dp]at hs
 rw[<-e2]at hs
 change mc t (ms x (i - 1))+(pay t s (dif lo i a b (J8 t lo w (n - 2 - i) i a b s))+dp t lo w (n - 2 - i) (i+1) b (J8 t lo w (n - 2 - i) i a b s) (Lh s (dif lo i a b (J8 t lo w (n - 2 - i) i a b s))))=T at hs
 refine⟨⟨by omega,hi,by simpa using p.b1,hlt,?_,hc,fun j hj=>?_,?_,?_⟩,hlt⟩
 ·rw[Nat.add_sub_cancel,hy _ (Nat.le_refl _)];exact p.xb
 ·by_cases e:j=i+1
  ·subst e;rw[hc];omega
  ·rw[hy j Al];exact p.inn j Al
 ·rw[Nat.add_sub_cancel,em,ex,ed]
  show Lh (ms x (i - 1)).sign _=_
  rw[p.sg]
 ·rw[Nat.add_sub_cancel,em,eT,ex,ed,p.sg,show n - 1 - (i+1)=n - 2 - i by omega]
  omega
end AE.Fair

/- Walks of fair: spots, and a drawer. -/
namespace AE.Tryz
open Go AE Go.Proofs AE.Fair
set_option maxRecDepth 100000
set_option linter.unusedVariables false

structure Rg where
 lo:Int
 hi:Int
def Rg.cells (x:Rg):List Value:=[.int .i64 x.lo,.int .i64 x.hi]
structure Ug where
 n:Nat
 f:Nat->Rg
 b:Option Addr
 a:Addr
 c:Nat
structure Ug.Ok (T:Ug) (m:Nat) (h:H):Prop where
 e:0<T.n->T.b=some T.a
 i:JP h T.a T.n 2 (fun i=>(T.f i).cells)
 r:0<T.n->T.a.block<m
 l:T.n<=9223372036854775807
theorem Ug.Ok.same {T:Ug}{m m':Nat}{h h':H}(k:T.Ok m h) (s:Same m h h') (hm:m<=m'):T.Ok m' h':=
 ⟨k.e,k.i.same s k.r,fun h=>by have:=k.r h;omega,k.l⟩

theorem bF {h:H}{T:Ug}{m:Nat}(hm:m<=h.next) (hT:T.Ok m h) {pf:Value}{p:Nat->Bool}(hy:∀i h1,i<T.n->Quiet h.next h h1->∃v h2,v= .bool (p i)/\CX Tryz.prog pf h1.next h1 [.agg ⟨(T.f i).cells⟩] v h2):
 AW Tryz.prog 220 h.next h [.slice T.b T.n T.c,pf] (fun v _=>∃z,v= .int .i64 z/\(0<=z↔∃i,i<T.n/\p i=true)):=by
 obtain⟨e1,i1,r1,l1⟩:=hT
 refine zq.call rfl (Nat.le_refl _) ?_
 unfold Ah0
 (focus((try with_reducible apply wpC.to);(repeat'((conv=>whnf);first|refine Ak ?_|(apply Fork.mk<;>(intro _;try(exfalso;omega)))|((refine AJ ?_);first|((first|apply Ae|apply Ac|apply Ad)<;>intro _ _ _ _<;>try contradiction)|(apply Ab;intro _ _ _))|fail));all_goals((conv=>whnf);try with_reducible apply At.mk)))
 refine wp_loop (fun s:Nat=>[(0,.slice T.b T.n T.c),(1,pf),(7,.int .i64 T.n),(8,.int .i64 s)]) (fun s h1=>Quiet h.next h h1/\s<=T.n/\∀i,i<s->p i=false) (fun s=>T.n - s) 0 ⟨rfl,rfl,rfl,rfl,trivial⟩ ⟨?_,by omega,fun i hi=>by omega⟩ ?_
 ·(exact AO)
 rintro s g h1 ⟨q,hs,hp⟩ K hK
 have hnx:=q.next
 (focus((try with_reducible apply wpC.to);(repeat'((conv=>whnf);first|refine Ak ?_|(apply Fork.mk<;>(intro _;try(exfalso;omega)))|((refine AJ ?_);first|((first|apply Ae|apply Ac|apply Ad)<;>intro _ _ _ _<;>try contradiction)|(apply Ab;intro _ _ _))|fail));all_goals((conv=>whnf);try with_reducible apply At.mk)))
 ·apply Dx
  focus exact CJ (hy s _ Al AO) Ah
  rintro _ h2 rfl q2
  have hnx2:=q2.next
  cases hb:p s with
  | true=>
    (focus((try with_reducible apply wpC.to);(repeat'((conv=>whnf);first|refine Ak ?_|(apply Fork.mk<;>(intro _;try(exfalso;omega)))|((refine AJ ?_);first|((first|apply Ae|apply Ac|apply Ad)<;>intro _ _ _ _<;>try contradiction)|(apply Ab;intro _ _ _))|fail));all_goals((conv=>whnf);try with_reducible apply At.mk)))
    (refine Au ?_)
    exact⟨_,rfl,⟨fun _=>⟨s,by omega,hb⟩,fun _=>by omega⟩⟩
  | false=>
    (focus((try with_reducible apply wpC.to);(repeat'((conv=>whnf);first|refine Ak ?_|(apply Fork.mk<;>(intro _;try(exfalso;omega)))|((refine AJ ?_);first|((first|apply Ae|apply Ac|apply Ad)<;>intro _ _ _ _<;>try contradiction)|(apply Ab;intro _ _ _))|fail));all_goals((conv=>whnf);try with_reducible apply At.mk)))
    refine hK (s+1) _ _ ⟨rfl,rfl,rfl,AK rfl Al,trivial⟩ ⟨AO,by omega,fun i hi=>?_⟩ Al
    by_cases e:i=s
    ·subst e;exact hb
    ·exact hp i Al
 ·(refine Au ?_)
  refine⟨_,rfl,⟨fun h=>by omega,fun⟨i,hi,hpi⟩=>?_⟩⟩
  rw[hp i Al]at hpi
  cases hpi
theorem qy {h:H}{T:Ug}{m:Nat}(hm:m<=h.next) (hT:T.Ok m h) {pf:Value}{p:Nat->Bool}(hy:∀i h1,i<T.n->Quiet h.next h h1->∃v h2,v= .bool (p i)/\CX Tryz.prog pf h1.next h1 [.agg ⟨(T.f i).cells⟩] v h2):
 AW Tryz.prog 130 h.next h [.slice T.b T.n T.c,pf] (fun v _=>v= .bool (decide (∃i,i<T.n/\p i=true))):=by
 refine Aak.call rfl (Nat.le_refl _) ?_
 unfold a130
 (focus((try with_reducible apply wpC.to);(repeat'((conv=>whnf);first|refine Ak ?_|(apply Fork.mk<;>(intro _;try(exfalso;omega)))|fail));all_goals((conv=>whnf);try with_reducible apply At.mk)))
 apply Ar
 focus(exact Ao)
 focus(exact AQ)
 focus exact bF (m:=m) Ah (hT.same Aq (Nat.le_refl _)) fun i h1 hi q=>hy i h1 hi (Quiet.trans AO (q.mono Ah))
 rintro _ h1 ⟨z,rfl,hz⟩ q hn
 (focus((try with_reducible apply wpC.to);(repeat'((conv=>whnf);first|refine Ak ?_|(apply Fork.mk<;>(intro _;try(exfalso;omega)))|fail));all_goals((conv=>whnf);try with_reducible apply At.mk)))
 all_goals(refine Au ?_)
 ·exact CI rfl (hz.1 Al)
 ·exact Ch rfl (fun h=>by have:=hz.2 h;omega)

def one (x:Int):Nat->Int:=fun _=>x
def two (x y:Int):Nat->Int:=fun i=>if i=0 then x else y
theorem gO {h:H}{x lo hi:Int}{r:Nat}(hr:r<h.next) (hg:h.get r=some (.cells [.int .i64 x] 2)):AW Tryz.prog 66 h.next h [.int .i64 lo,.int .i64 hi,.slice (some ⟨r,0,none⟩) 1 1] (fun v _=>v= .bool (decide (lo<=x/\x<=hi))):=by
 have:=PR (h:=h) (T:=⟨1,one x,some ⟨r,0,none⟩,⟨r,0,none⟩,1⟩) (m:=h.next) (lo:=lo) (hi:=hi) (Nat.le_refl _) ⟨fun _=>rfl,fun i hi=>by
  obtain rfl:i=0:=by dsimp only at hi;omega
  exact Di (off:=0) hg rfl,fun _=>hr,by dsimp only;omega⟩
 obtain⟨v,h',e,a⟩:=this
 refine⟨v,h',e.trans (congrArg Value.bool ?_),a⟩
 exact decide_eq_decide.2 ⟨fun a=>a 0 (Nat.one_pos),fun a i _=>a⟩
theorem gN {h:H}{x y lo hi:Int}{r:Nat}(hr:r<h.next) (hg:h.get r=some (.cells [.int .i64 x,.int .i64 y] 2)):AW Tryz.prog 66 h.next h [.int .i64 lo,.int .i64 hi,.slice (some ⟨r,0,none⟩) 2 2] (fun v _=>v= .bool (decide ((lo<=x/\x<=hi)/\lo<=y/\y<=hi))):=by
 have:=PR (h:=h) (T:=⟨2,two x y,some ⟨r,0,none⟩,⟨r,0,none⟩,2⟩) (m:=h.next) (lo:=lo) (hi:=hi) (Nat.le_refl _) ⟨fun _=>rfl,fun i hi=>by
  dsimp only at hi
  rcases Nat.lt_or_ge i 1 with h1|h1
  ·obtain rfl:i=0:=by omega
   exact Di (off:=0) hg rfl
  ·obtain rfl:i=1:=by omega
   exact Di (off:=1) hg rfl,fun _=>hr,by dsimp only;omega⟩
 obtain⟨v,h',e,a⟩:=this
 refine⟨v,h',e.trans (congrArg Value.bool ?_),a⟩
 refine decide_eq_decide.2 ⟨fun a=>⟨a 0 (by show 0<2;omega),a 1 (by show 1<2;omega)⟩,fun a i hi=>?_⟩
 dsimp only at hi
 rcases Nat.lt_or_ge i 1 with h1|h1
 ·obtain rfl:i=0:=by omega
  exact a.1
 ·obtain rfl:i=1:=by omega
  exact a.2
theorem CG {G G':Prop}(g:G') (t:G'->G:=by((apply Ar);(focus exact Ao);(focus exact AQ);(focus((apply gO;(focus exact Ah);(focus exact Aa)))))):G:=t g
theorem CF {G G':Prop}(g:G') (t:G'->G:=by((apply Ar);(focus exact Ao);(focus exact AQ);(focus((apply gN;(focus exact Ah);(focus exact Aa)))))):G:=t g

def N2 (x:Rg):Prop:=¬((-1000000<=x.lo/\x.lo<=1000000)/\ -1000000<=x.hi/\x.hi<=1000000)\/¬(0<=x.hi - x.lo/\x.hi - x.lo<=4)
instance (x:Rg):Decidable (N2 x):=by unfold N2;infer_instance
theorem Ace {h:H}{x:Rg}:AW Tryz.prog 129 h.next h [.agg ⟨x.cells⟩] (fun v _=>v= .bool (decide (N2 x))):=by
 refine Aal.call rfl (Nat.le_refl _) ?_
 unfold Ais Rg.cells
 (focus((try with_reducible apply wpC.to);(repeat'((conv=>whnf);first|refine Ak ?_|((first|refine CF ?_|refine CG ?_|refine CB ?_);first|((first|apply Ae|apply Ac|apply Ad)<;>intro _ _ _ _<;>try contradiction)|(apply Ab;intro _ _ _))|fail));all_goals((conv=>whnf);try with_reducible apply At.mk)))
 all_goals(refine Au ?_)
 all_goals first
  |(refine CI rfl ?_;unfold N2;omega)
  |(refine Ch rfl ?_;unfold N2;omega)

structure Cx where
 r:Ug
 t:Int
def Cx.cells (S:Cx):List Value:=[.slice S.r.b S.r.n S.r.c,.int .i64 S.t]
noncomputable def F9 (S:Cx):Int:=if S.r.n=0\/24<S.r.n then 6 else if(0<=S.t/\S.t<=1000000)/\∀i,i<S.r.n->¬N2 (S.r.f i)then 0 else 2
theorem O7 {h:H}{S:Cx}{m:Nat}(hm:m<=h.next) (hS:S.r.Ok m h):AW Tryz.prog 63 h.next h [.agg ⟨S.cells⟩] (fun v _=>v= .int .i64 (F9 S)):=by
 have l1:=hS.l
 refine Aff.call rfl (Nat.le_refl _) ?_
 unfold a63 F9 Cx.cells
 by_cases h0:S.r.n=0
 ·rw[if_pos (.inl h0)]
  (focus((try with_reducible apply wpC.to);(repeat'((conv=>whnf);first|refine Ak ?_|(apply Fork.mk<;>(intro _;try(exfalso;omega)))|((first|refine CF ?_|refine CG ?_|refine CB ?_);first|((first|apply Ae|apply Ac|apply Ad)<;>intro _ _ _ _<;>try contradiction)|(apply Ab;intro _ _ _))|fail));all_goals((conv=>whnf);try with_reducible apply At.mk)))
  all_goals((refine Au ?_);rfl)
 by_cases h1:24<S.r.n
 ·rw[if_pos (.inr h1)]
  (focus((try with_reducible apply wpC.to);(repeat'((conv=>whnf);first|refine Ak ?_|(apply Fork.mk<;>(intro _;try(exfalso;omega)))|((first|refine CF ?_|refine CG ?_|refine CB ?_);first|((first|apply Ae|apply Ac|apply Ad)<;>intro _ _ _ _<;>try contradiction)|(apply Ab;intro _ _ _))|fail));all_goals((conv=>whnf);try with_reducible apply At.mk)))
  all_goals((refine Au ?_);rfl)
 rw[if_neg Al]
 by_cases ht:0<=S.t/\S.t<=1000000
 ·(focus((try with_reducible apply wpC.to);(repeat'((conv=>whnf);first|refine Ak ?_|(apply Fork.mk<;>(intro _;try(exfalso;omega)))|((first|refine CF ?_|refine CG ?_|refine CB ?_);first|((first|apply Ae|apply Ac|apply Ad)<;>intro _ _ _ _<;>try contradiction)|(apply Ab;intro _ _ _))|fail));all_goals((conv=>whnf);try with_reducible apply At.mk)))
  apply Ar
  focus(exact Ao)
  focus(exact AQ)
  focus exact qy (m:=m) (p:=fun i=>decide (N2 (S.r.f i))) Ah (hS.same Aq (Nat.le_refl _)) fun i h1 hi q=>Ec Ace rfl
  intro w h1 hw q hn
  by_cases hd:∃i,i<S.r.n/\decide (N2 (S.r.f i))=true
  ·rw[decide_eq_true hd]at hw
   subst hw
   rw[if_neg fun hc=>by obtain⟨i,hi,hp⟩:=hd;exact hc.2 i hi (of_decide_eq_true hp)]
   (focus((try with_reducible apply wpC.to);(repeat'((conv=>whnf);first|refine Ak ?_|(apply Fork.mk<;>(intro _;try(exfalso;omega)))|((first|refine CF ?_|refine CG ?_|refine CB ?_);first|((first|apply Ae|apply Ac|apply Ad)<;>intro _ _ _ _<;>try contradiction)|(apply Ab;intro _ _ _))|fail));all_goals((conv=>whnf);try with_reducible apply At.mk)))
   (refine Au ?_)
   rfl
  ·rw[decide_eq_false hd]at hw
   subst hw
   rw[if_pos ⟨ht,fun i hi hb=>hd ⟨i,hi,decide_eq_true hb⟩⟩]
   (focus((try with_reducible apply wpC.to);(repeat'((conv=>whnf);first|refine Ak ?_|(apply Fork.mk<;>(intro _;try(exfalso;omega)))|((first|refine CF ?_|refine CG ?_|refine CB ?_);first|((first|apply Ae|apply Ac|apply Ad)<;>intro _ _ _ _<;>try contradiction)|(apply Ab;intro _ _ _))|fail));all_goals((conv=>whnf);try with_reducible apply At.mk)))
   (refine Au ?_)
   rfl
 ·rw[if_neg fun hc=>ht hc.1]
  (focus((try with_reducible apply wpC.to);(repeat'((conv=>whnf);first|refine Ak ?_|(apply Fork.mk<;>(intro _;try(exfalso;omega)))|((first|refine CF ?_|refine CG ?_|refine CB ?_);first|((first|apply Ae|apply Ac|apply Ad)<;>intro _ _ _ _<;>try contradiction)|(apply Ab;intro _ _ _))|fail));all_goals((conv=>whnf);try with_reducible apply At.mk)))
  all_goals((refine Au ?_);rfl)
end AE.Tryz
