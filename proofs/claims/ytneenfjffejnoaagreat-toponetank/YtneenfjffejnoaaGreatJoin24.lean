/- Walks and plain laws: TSpanA, TSpanB. -/
import Derived.Test.YtneenfjffejnoaaGreatAEBy2
import Derived.Test.YtneenfjffejnoaaGreatT9Code
import Derived.Test.YtneenfjffejnoaaGreatAEthree
import Derived.Test.YtneenfjffejnoaaGreatSpanSpec
set_option linter.unusedVariables false
set_option linter.unusedSimpArgs false
set_option linter.unusedSectionVars false

/- Walks of span: what comes in; searches in slices. -/
namespace AE.Tryz.Spn
open Go AE Go.Proofs AE.Sp
set_option maxRecDepth 100000
set_option linter.unusedVariables false

theorem Ec {g:FuncId}{first CL args xs:List Value}{lo:Nat}{h:H}{R:Value->H->Prop}(hc:AW Tryz.prog g lo h xs R) (e:first++args++CL=xs):∃v h',R v h'/\CX Tryz.prog (.func (.func g) ⟨first⟩ ⟨CL⟩) lo h args v h':=by
 obtain⟨v,h',r,a⟩:=hc
 subst e
 exact⟨v,h',r,a.Vv⟩
theorem CJ {fv:Value}{args:List Value}{lo lo':Nat}{h:H}{R:Value->H->Prop}(hc:∃v h',R v h'/\CX Tryz.prog fv lo h args v h') (hl:lo'<=lo):∃v h',R v h'/\CX Tryz.prog fv lo' h args v h':=
 let⟨v,h',r,a⟩:=hc;⟨v,h',r,a.mono hl⟩

structure G9 where
 n:Nat
 f:Nat->Int
 b:Option Addr
 a:Addr
 c:Nat
def G9.val (T:G9):Value:=.slice T.b T.n T.c
structure G9.Ok (T:G9) (m:Nat) (h:H):Prop where
 e:0<T.n->T.b=some T.a
 i:Ints h T.a T.n T.f
 r:0<T.n->T.a.block<m
 l:T.n<=9223372036854775807
theorem G9.Ok.same {T:G9}{m m':Nat}{h h':H}(k:T.Ok m h) (s:Same m h h') (hm:m<=m'):T.Ok m' h':=
 ⟨k.e,k.i.same s k.r,fun h=>by have:=k.r h;omega,k.l⟩
structure wH where
 n:Nat
 w:Nat->Nat
 b:Option Addr
 a:Addr
 c:Nat
 rb:Nat->Option Addr
 ra:Nat->Addr
 rc:Nat->Nat
def wH.val (M:wH):Value:=.slice M.b M.n M.c
def wH.row (M:wH) (i:Nat):Value:=.slice (M.rb i) (M.w i) (M.rc i)
structure wH.Ok (M:wH) (sz:Nat) (el:Nat->Nat->List Value) (m:Nat) (h:H):Prop where
 e:0<M.n->M.b=some M.a
 i:QV h M.a M.n M.row
 r:0<M.n->M.a.block<m
 l:M.n<=9223372036854775807
 re:∀i,i<M.n->0<M.w i->M.rb i=some (M.ra i)
 ri:∀i,i<M.n->JP h (M.ra i) (M.w i) sz (el i)
 rr:∀i,i<M.n->0<M.w i->(M.ra i).block<m
 rl:∀i,i<M.n->M.w i<=9223372036854775807
theorem wH.Ok.same {M:wH}{sz:Nat}{el:Nat->Nat->List Value}{m m':Nat}{h h':H}(k:M.Ok sz el m h) (s:Same m h h') (hm:m<=m'):M.Ok sz el m' h':=
 ⟨k.e,k.i.same s k.r,fun h=>by have:=k.r h;omega,k.l,k.re,fun i hi=>(k.ri i hi).same s (k.rr i hi),fun i hi h=>by have:=k.rr i hi h;omega,k.rl⟩

structure Run where
 p:Int
 q:Int
 lo:Int
 hi:Int
def Run.cells (x:Run):List Value:=[.int .i64 x.p,.int .i64 x.q,.int .i64 x.lo,.int .i64 x.hi]
structure PS where
 r:Int
 up:Bool
 t:Int
def PS.cells (x:PS):List Value:=[.int .i64 x.r,.bool x.up,.int .i64 x.t]
structure Rg where
 lo:Int
 hi:Int
def Rg.cells (x:Rg):List Value:=[.int .i64 x.lo,.int .i64 x.hi]

structure Runs where
 n:Nat
 f:Nat->Run
 b:Option Addr
 a:Addr
 c:Nat
structure Runs.Ok (T:Runs) (m:Nat) (h:H):Prop where
 e:0<T.n->T.b=some T.a
 i:JP h T.a T.n 4 (fun i=>(T.f i).cells)
 r:0<T.n->T.a.block<m
 l:T.n<=9223372036854775807
theorem Runs.Ok.same {T:Runs}{m m':Nat}{h h':H}(k:T.Ok m h) (s:Same m h h') (hm:m<=m'):T.Ok m' h':=
 ⟨k.e,k.i.same s k.r,fun h=>by have:=k.r h;omega,k.l⟩

structure H8 where
 n:Nat
 f:Nat->PS
 b:Option Addr
 a:Addr
 c:Nat
structure H8.Ok (T:H8) (m:Nat) (h:H):Prop where
 e:0<T.n->T.b=some T.a
 i:JP h T.a T.n 3 (fun i=>(T.f i).cells)
 r:0<T.n->T.a.block<m
 l:T.n<=9223372036854775807
theorem H8.Ok.same {T:H8}{m m':Nat}{h h':H}(k:T.Ok m h) (s:Same m h h') (hm:m<=m'):T.Ok m' h':=
 ⟨k.e,k.i.same s k.r,fun h=>by have:=k.r h;omega,k.l⟩

structure Ug where
 n:Nat
 f:Nat->Rg
 b:Option Addr
 a:Addr
 c:Nat
structure Ug.Ok (T:Ug) (m:Nat) (h:H):Prop where
 e:0<T.n->T.b=some T.a
 i:JP h T.a T.n 2 (fun i=>(T.f i).cells)
 r:0<T.n->T.a.block<m
 l:T.n<=9223372036854775807
theorem Ug.Ok.same {T:Ug}{m m':Nat}{h h':H}(k:T.Ok m h) (s:Same m h h') (hm:m<=m'):T.Ok m' h':=
 ⟨k.e,k.i.same s k.r,fun h=>by have:=k.r h;omega,k.l⟩


theorem WA {h:H}{T:G9}{m:Nat}(hm:m<=h.next) (hT:T.Ok m h) {pf:Value}{p:Nat->Bool}(hy:∀i h1,i<T.n->Quiet h.next h h1->∃v h2,v= .bool (p i)/\CX Tryz.prog pf h1.next h1 [.int .i64 (T.f i)] v h2):
 AW Tryz.prog 205 h.next h [.slice T.b T.n T.c,pf] (fun v _=>∃z,v= .int .i64 z/\(0<=z↔∃i,i<T.n/\p i=true)):=by
 obtain⟨e1,i1,r1,l1⟩:=hT
 refine bT.call rfl (Nat.le_refl _) ?_
 unfold uX
 (refine Aj ?_)
 refine wp_loop (fun s:Nat=>[(0,.slice T.b T.n T.c),(1,pf),(7,.int .i64 T.n),(8,.int .i64 s)]) (fun s h1=>Quiet h.next h h1/\s<=T.n/\∀i,i<s->p i=false) (fun s=>T.n - s) 0 ⟨rfl,rfl,rfl,rfl,trivial⟩ ⟨?_,by omega,fun i hi=>by omega⟩ ?_
 ·(exact AO)
 rintro s g h1 ⟨q,hs,hp⟩ K hK
 have hnx:=q.next
 (focus((try with_reducible apply wpC.to);(repeat'((conv=>whnf);first|refine Ak ?_|(apply Fork.mk<;>(intro _;try(exfalso;omega)))|fail));all_goals((conv=>whnf);try with_reducible apply At.mk)))
 ·apply Dx
  focus exact CJ (hy s _ Al AO) Ah
  rintro _ h2 rfl q2
  have hnx2:=q2.next
  cases hb:p s with
  | true=>
    (refine Aj ?_)
    (refine Au ?_)
    exact⟨_,rfl,⟨fun _=>⟨s,by omega,hb⟩,fun _=>by omega⟩⟩
  | false=>
    (refine Aj ?_)
    refine hK (s+1) _ _ ⟨rfl,rfl,rfl,AK rfl Al,trivial⟩ ⟨AO,by omega,fun i hi=>?_⟩ Al
    by_cases e:i=s
    ·subst e;exact hb
    ·exact hp i Al
 ·(refine Au ?_)
  refine⟨_,rfl,⟨fun h=>by omega,fun⟨i,hi,hpi⟩=>?_⟩⟩
  rw[hp i Al]at hpi
  cases hpi
theorem cU {h:H}{T:G9}{m:Nat}(hm:m<=h.next) (hT:T.Ok m h) {pf:Value}{p:Nat->Bool}(hy:∀i h1,i<T.n->Quiet h.next h h1->∃v h2,v= .bool (p i)/\CX Tryz.prog pf h1.next h1 [.int .i64 (T.f i)] v h2):
 AW Tryz.prog 118 h.next h [.slice T.b T.n T.c,pf] (fun v _=>v= .bool (decide (∃i,i<T.n/\p i=true))):=by
 refine bU.call rfl (Nat.le_refl _) ?_
 unfold uY
 (refine Aj ?_)
 apply Ar
 focus(exact Ao)
 focus(exact AQ)
 focus exact WA (m:=m) Ah (hT.same Aq (Nat.le_refl _)) fun i h1 hi q=>hy i h1 hi (Quiet.trans AO (q.mono Ah))
 rintro _ h1 ⟨z,rfl,hz⟩ q hn
 (focus((try with_reducible apply wpC.to);(repeat'((conv=>whnf);first|refine Ak ?_|(apply Fork.mk<;>(intro _;try(exfalso;omega)))|fail));all_goals((conv=>whnf);try with_reducible apply At.mk)))
 all_goals(refine Au ?_)
 ·exact CI rfl (hz.1 Al)
 ·exact Ch rfl (fun h=>by have:=hz.2 h;omega)


theorem YJ {h:H}{T:Runs}{m:Nat}(hm:m<=h.next) (hT:T.Ok m h) {pf:Value}{p:Nat->Bool}(hy:∀i h1,i<T.n->Quiet h.next h h1->∃v h2,v= .bool (p i)/\CX Tryz.prog pf h1.next h1 [.agg ⟨(T.f i).cells⟩] v h2):
 AW Tryz.prog 196 h.next h [.slice T.b T.n T.c,pf] (fun v _=>∃z,v= .int .i64 z/\(0<=z↔∃i,i<T.n/\p i=true)):=by
 obtain⟨e1,i1,r1,l1⟩:=hT
 refine zS.call rfl (Nat.le_refl _) ?_
 unfold a196
 (refine Aj ?_)
 refine wp_loop (fun s:Nat=>[(0,.slice T.b T.n T.c),(1,pf),(7,.int .i64 T.n),(8,.int .i64 s)]) (fun s h1=>Quiet h.next h h1/\s<=T.n/\∀i,i<s->p i=false) (fun s=>T.n - s) 0 ⟨rfl,rfl,rfl,rfl,trivial⟩ ⟨?_,by omega,fun i hi=>by omega⟩ ?_
 ·(exact AO)
 rintro s g h1 ⟨q,hs,hp⟩ K hK
 have hnx:=q.next
 (focus((try with_reducible apply wpC.to);(repeat'((conv=>whnf);first|refine Ak ?_|(apply Fork.mk<;>(intro _;try(exfalso;omega)))|fail));all_goals((conv=>whnf);try with_reducible apply At.mk)))
 ·apply Dx
  focus exact CJ (hy s _ Al AO) Ah
  rintro _ h2 rfl q2
  have hnx2:=q2.next
  cases hb:p s with
  | true=>
    (refine Aj ?_)
    (refine Au ?_)
    exact⟨_,rfl,⟨fun _=>⟨s,by omega,hb⟩,fun _=>by omega⟩⟩
  | false=>
    (refine Aj ?_)
    refine hK (s+1) _ _ ⟨rfl,rfl,rfl,AK rfl Al,trivial⟩ ⟨AO,by omega,fun i hi=>?_⟩ Al
    by_cases e:i=s
    ·subst e;exact hb
    ·exact hp i Al
 ·(refine Au ?_)
  refine⟨_,rfl,⟨fun h=>by omega,fun⟨i,hi,hpi⟩=>?_⟩⟩
  rw[hp i Al]at hpi
  cases hpi
theorem kz {h:H}{T:Runs}{m:Nat}(hm:m<=h.next) (hT:T.Ok m h) {pf:Value}{p:Nat->Bool}(hy:∀i h1,i<T.n->Quiet h.next h h1->∃v h2,v= .bool (p i)/\CX Tryz.prog pf h1.next h1 [.agg ⟨(T.f i).cells⟩] v h2):
 AW Tryz.prog 108 h.next h [.slice T.b T.n T.c,pf] (fun v _=>v= .bool (decide (∃i,i<T.n/\p i=true))):=by
 refine Aa3.call rfl (Nat.le_refl _) ?_
 unfold Ai4
 (refine Aj ?_)
 apply Ar
 focus(exact Ao)
 focus(exact AQ)
 focus exact YJ (m:=m) Ah (hT.same Aq (Nat.le_refl _)) fun i h1 hi q=>hy i h1 hi (Quiet.trans AO (q.mono Ah))
 rintro _ h1 ⟨z,rfl,hz⟩ q hn
 (focus((try with_reducible apply wpC.to);(repeat'((conv=>whnf);first|refine Ak ?_|(apply Fork.mk<;>(intro _;try(exfalso;omega)))|fail));all_goals((conv=>whnf);try with_reducible apply At.mk)))
 all_goals(refine Au ?_)
 ·exact CI rfl (hz.1 Al)
 ·exact Ch rfl (fun h=>by have:=hz.2 h;omega)


end AE.Tryz.Spn

/- Walks of span: which runs are valid. -/
namespace AE.Tryz.Spn
open Go AE Go.Proofs AE.Sp
set_option maxRecDepth 100000
set_option linter.unusedVariables false


theorem jZ {h:H}{r1 r2:Nat}{n lo hi:Int}{e:TypeId}(hg1:h.get r1=some (.cells [.int .i64 lo] e)) (hg2:h.get r2=some (.cells [.int .i64 hi] e)):AW Tryz.prog 119 h.next h [.int .i64 n,.pointer (some ⟨r1,0,none⟩),.pointer (some ⟨r2,0,none⟩)] (fun v _=>v= .bool (decide (n<lo\/hi<n))):=by
 refine Aau.call rfl (Nat.le_refl _) ?_
 unfold a119
 (focus((try with_reducible apply wpC.to);(repeat'((conv=>whnf);first|refine Ak ?_|(apply Fork.mk<;>(intro _;try(exfalso;omega)))|fail));all_goals((conv=>whnf);try with_reducible apply At.mk)))
 all_goals((refine Au ?_);first|exact CI rfl Al|exact Ch rfl Al)
theorem Uq {h:H}{T:G9}{m:Nat}{lo hi:Int}(hm:m<=h.next) (hT:T.Ok m h):
 AW Tryz.prog 54 h.next h [.int .i64 lo,.int .i64 hi,.slice T.b T.n T.c] (fun v _=>v= .bool (decide (∀i,i<T.n->lo<=T.f i/\T.f i<=hi))):=by
 refine Afn.call rfl (Nat.le_refl _) ?_
 unfold a54
 (refine Aj ?_)
 apply Fp
 focus(exact Ao)
 focus(exact AQ)
 focus
  refine cU (m:=m) (p:=fun i=>decide (T.f i<lo\/hi<T.f i)) Ah (hT.same Aq (Nat.le_refl _)) fun i k1 hi q=>?_
  exact Ec (jZ (e:=2) (r1:=h.next) (r2:=h.next+1) ((q.same _ Ah).trans Aa) ((q.same _ Ah).trans Aa)) rfl
 ·intro hb h2 q hn
  (refine Aj ?_)
  (refine Au ?_)
  refine Ch rfl fun hall=>?_
  obtain⟨i,hi,h3⟩:=of_decide_eq_true hb
  have:=hall i hi
  have:=of_decide_eq_true h3
  omega
 ·intro hb h2 q hn
  (refine Aj ?_)
  (refine Au ?_)
  refine CI rfl fun i hi'=>?_
  have:=of_decide_eq_false hb
  by_cases hx:T.f i<lo\/hi<T.f i
  ·exact absurd ⟨i,hi',decide_eq_true hx⟩ this
  ·omega
theorem Gw {h:H}{r:Nat}{e:TypeId}{l:List Int}(hg:h.get r=some (.cells (l.map (Value.int .i64)) e)):Ints h ⟨r,0,none⟩ l.length (fun i=>l.getD i 0):=fun i hi=>by
 refine Di hg ?_
 show(l.map (Value.int .i64))[0+i]? =_
 simp[hi]
theorem ZW {h:H}{lo hi a:Int}{r:Nat}{e:TypeId}(hg:h.get r=some (.cells [.int .i64 a] e)) (hr:r<h.next):
 AW Tryz.prog 54 h.next h [.int .i64 lo,.int .i64 hi,.slice (some ⟨r,0,none⟩) 1 1] (fun v _=>v= .bool (decide (lo<=a/\a<=hi))):=by
 obtain⟨v,h',e1,k⟩:=Uq (h:=h) (T:=⟨1,fun i=>[a].getD i 0,some ⟨r,0,none⟩,⟨r,0,none⟩,1⟩) (m:=h.next) (lo:=lo) (hi:=hi) (Nat.le_refl _) ⟨fun _=>rfl,Gw (l:=[a]) hg,fun _=>hr,by show 1<=_;omega⟩
 refine⟨v,h',?_,k⟩
 rw[e1]
 congr 1
 refine decide_eq_decide.2 ⟨fun k=>k 0 (by show 0<1;omega),fun k i hi=>?_⟩
 have hi:i<1:=hi
 obtain rfl:i=0:=by omega
 exact k
theorem ZV {h:H}{lo hi a b:Int}{r:Nat}{e:TypeId}(hg:h.get r=some (.cells [.int .i64 a,.int .i64 b] e)) (hr:r<h.next):
 AW Tryz.prog 54 h.next h [.int .i64 lo,.int .i64 hi,.slice (some ⟨r,0,none⟩) 2 2] (fun v _=>v= .bool (decide ((lo<=a/\a<=hi)/\(lo<=b/\b<=hi)))):=by
 obtain⟨v,h',e1,k⟩:=Uq (h:=h) (T:=⟨2,fun i=>[a,b].getD i 0,some ⟨r,0,none⟩,⟨r,0,none⟩,2⟩) (m:=h.next) (lo:=lo) (hi:=hi) (Nat.le_refl _) ⟨fun _=>rfl,Gw (l:=[a,b]) hg,fun _=>hr,by show 2<=_;omega⟩
 refine⟨v,h',?_,k⟩
 rw[e1]
 congr 1
 refine decide_eq_decide.2 ⟨fun k=>⟨k 0 (by show 0<2;omega),k 1 (by show 1<2;omega)⟩,fun k i hi=>?_⟩
 have hi:i<2:=hi
 obtain rfl|rfl:i=0\/i=1:=by omega
 ·exact k.1
 ·exact k.2

theorem kTSpanB0 {G G':Prop}(g:G') (t:G'->G:=by((apply Ar);(focus exact Ao);(focus exact AQ);(focus((apply ZW;(focus exact Aa);(focus exact Ah)))))):G:=t g
theorem kTSpanB1 {G G':Prop}(g:G') (t:G'->G:=by((apply Ar);(focus exact Ao);(focus exact AQ);(focus((apply ZV;(focus exact Aa);(focus exact Ah)))))):G:=t g

theorem cA {h:H}{a b:Int}{r:Nat}{e:TypeId}(hg:h.get r=some (.cells [.int .i64 a,.int .i64 b] e)) (hr:r<h.next):
 AW Tryz.prog 197 h.next h [.slice (some ⟨r,0,none⟩) 2 2] (fun v _=>v= .bool (decide ((-20<=a/\a<=20)/\(-20<=b/\b<=20)))):=by
 refine zR.call rfl (Nat.le_refl _) ?_
 unfold Aid
 (focus((try with_reducible apply wpC.to);(repeat'((conv=>whnf);first|refine Ak ?_|((first|refine kTSpanB1 ?_|refine kTSpanB0 ?_);first|((first|apply Ae|apply Ac|apply Ad)<;>intro _ _ _ _<;>try contradiction)|(apply Ab;intro _ _ _))|fail));all_goals((conv=>whnf);try with_reducible apply At.mk)))
 all_goals(refine Au ?_)
 all_goals first|exact CI rfl (by assumption)|exact Ch rfl (by assumption)
theorem kTSpanB2 {G G':Prop}(g:G') (t:G'->G:=by((apply Ar);(focus exact Ao);(focus exact AQ);(focus((apply cA;(focus exact Aa);(focus exact Ah)))))):G:=t g


def qS (p q:Int):Prop:=(-20<=p/\p<=20)/\(-20<=q/\q<=20)
instance (p q:Int):Decidable (qS p q):=inferInstanceAs (Decidable ((-20<=p/\p<=20)/\(-20<=q/\q<=20)))
structure Run.Ok (x:Run):Prop where
 p: -20<=x.p/\x.p<=20
 q: -20<=x.q/\x.q<=20
 nz:x.p≠0\/x.q≠0
 lo: -100000<=x.lo
 le:x.lo<=x.hi
 hi:x.hi<=100000
instance (x:Run):Decidable x.Ok:=decidable_of_iff ((-20<=x.p/\x.p<=20)/\(-20<=x.q/\x.q<=20)/\(x.p≠0\/x.q≠0)/\ -100000<=x.lo/\x.lo<=x.hi/\x.hi<=100000) ⟨fun⟨a,b,c,d,e,f⟩=>⟨a,b,c,d,e,f⟩,fun⟨a,b,c,d,e,f⟩=>⟨a,b,c,d,e,f⟩⟩

theorem tF {h:H}{x:Run}:AW Tryz.prog 110 h.next h [.agg ⟨x.cells⟩] (fun v _=>v= .bool (decide x.Ok)):=by
 refine Aa1.call rfl (Nat.le_refl _) ?_
 unfold Ai3 Run.cells
 (focus((try with_reducible apply wpC.to);(repeat'((conv=>whnf);first|refine Ak ?_|(apply Fork.mk<;>(intro _;try(exfalso;omega)))|((first|refine kTSpanB2 ?_|refine kTSpanB1 ?_|refine kTSpanB0 ?_);first|((first|apply Ae|apply Ac|apply Ad)<;>intro _ _ _ _<;>try contradiction)|(apply Ab;intro _ _ _))|fail));all_goals((conv=>whnf);try with_reducible apply At.mk)))
 all_goals(refine Au ?_)
 all_goals first|exact CI rfl ⟨by omega,by omega,by omega,by omega,by omega,by omega⟩|exact Ch rfl (fun k=>by obtain⟨a,b,c,d,e,f⟩:=k;omega)
theorem kTSpanB3 {G G':Prop}(g:G') (t:G'->G:=by((apply Ar);(focus exact Ao);(focus exact AQ);(focus((apply tF))))):G:=t g
theorem sL {h:H}{x:Run}:AW Tryz.prog 109 h.next h [.agg ⟨x.cells⟩] (fun v _=>v= .bool (decide ¬x.Ok)):=by
 refine Aa2.call rfl (Nat.le_refl _) ?_
 unfold a109 Run.cells
 (focus((try with_reducible apply wpC.to);(repeat'((conv=>whnf);first|refine Ak ?_|((refine kTSpanB3 ?_);first|((first|apply Ae|apply Ac|apply Ad)<;>intro _ _ _ _<;>try contradiction)|(apply Ab;intro _ _ _))|fail));all_goals((conv=>whnf);try with_reducible apply At.mk)))
 all_goals(refine Au ?_)
 all_goals first|exact CI rfl (by assumption)|exact Ch rfl (fun k=>k (by assumption))

def Runs.Val (L:Runs):Prop:=∀i,i<L.n->(L.f i).Ok
open Classical in
noncomputable def Runs.err (L:Runs):Int:=if 12<L.n then 6 else if¬L.Val then 2 else 0
theorem Runs.Tj {L:Runs}(h:L.err=0):L.n<=12/\L.Val:=by
 unfold Runs.err at h
 split at h
 ·omega
 rename_i h1
 split at h
 ·omega
 rename_i h2
 exact⟨by omega,Classical.not_not.1 h2⟩
theorem Runs.oZ {L:Runs}(h1:L.n<=12) (h2:L.Val):L.err=0:=by
 unfold Runs.err;rw[if_neg Al,if_neg (fun k=>k h2)]
theorem Runs.vZ {L:Runs}(h1:12<L.n):L.err=6:=by unfold Runs.err;rw[if_pos h1]
theorem Runs.wh {L:Runs}(h1:L.n<=12) (h2:¬L.Val):L.err=2:=by unfold Runs.err;rw[if_neg Al,if_pos h2]

theorem Zj {h:H}{L:Runs}{m:Nat}(hm:m<=h.next) (hL:L.Ok m h):AW Tryz.prog 44 h.next h [.slice L.b L.n L.c] (fun v _=>v= .int .i64 L.err):=by
 have hL0:=hL
 obtain⟨e1,i1,r1,l1⟩:=hL
 refine Afw.call rfl (Nat.le_refl _) ?_
 unfold a44
 (focus((try with_reducible apply wpC.to);(repeat'((conv=>whnf);first|refine Ak ?_|(apply Fork.mk<;>(intro _;try(exfalso;omega)))|fail));all_goals((conv=>whnf);try with_reducible apply At.mk)))
 ·(refine Au ?_)
  rw[L.vZ Al]
 apply Fp
 focus(exact Ao)
 focus(exact AQ)
 focus
  refine kz (m:=m) (p:=fun i=>decide ¬(L.f i).Ok) Ah (hL0.same Aq (Nat.le_refl _)) fun i k1 hi q=>?_
  exact Ec (sL (h:=k1) (x:=L.f i)) rfl
 ·intro hb h2 q2 n2
  obtain⟨i,hi,h3⟩:=of_decide_eq_true hb
  have h3:=of_decide_eq_true h3
  (refine Aj ?_)
  (refine Au ?_)
  rw[L.wh Al (fun k=>h3 (k i hi))]
 ·intro hb h2 q2 n2
  have:=of_decide_eq_false hb
  have hv:L.Val:=fun i hi=>Classical.byContradiction fun h=>this ⟨i,hi,decide_eq_true h⟩
  clear hb
  (refine Aj ?_)
  (refine Au ?_)
  rw[L.oZ Al hv]

theorem kTSpanB4 {G G':Prop}(g:G') (t:G'->G:=by((apply Ar);(focus exact Ao);(focus exact AQ);(focus((apply Zj;rotate_left;(focus(apply Runs.Ok.same;(focus assumption);(focus exact Aq);(focus exact Nat.le_refl _)));(focus exact Ah)))))):G:=t g

noncomputable def Runs.FI (L:Runs) (p q:Int):Int:=if L.err≠0 then L.err else if qS p q then 0 else 3
theorem cJ {h:H}{L:Runs}{m:Nat}{p q:Int}(hm:m<=h.next) (hL:L.Ok m h):AW Tryz.prog 121 h.next h [.slice L.b L.n L.c,.int .i64 p,.int .i64 q] (fun v _=>v= .int .i64 (L.FI p q)):=by
 have hL0:=hL
 refine Aas.call rfl (Nat.le_refl _) ?_
 unfold Aix
 (focus((try with_reducible apply wpC.to);(repeat'((conv=>whnf);first|refine Ak ?_|(apply Fork.mk<;>(intro _;try(exfalso;omega)))|((first|refine kTSpanB4 ?_|refine kTSpanB2 ?_);first|((first|apply Ae|apply Ac|apply Ad)<;>intro _ _ _ _<;>try contradiction)|(apply Ab;intro _ _ _))|fail));all_goals((conv=>whnf);try with_reducible apply At.mk)))
 ·(refine Au ?_)
  unfold Runs.FI;rw[if_pos (by assumption)]
 ·(refine Au ?_)
  unfold Runs.FI;rw[if_neg Al,if_pos (by assumption)]
 ·(refine Au ?_)
  unfold Runs.FI;rw[if_neg Al,if_neg (by assumption)]


theorem oX {h:H}{n:Int}:AW Tryz.prog 35 h.next h [.int .i64 n] (fun v _=>v= .bool (decide (-20<=n/\n<=20))):=by
 refine Af4.call rfl (Nat.le_refl _) ?_
 unfold a35
 (focus((try with_reducible apply wpC.to);(repeat'((conv=>whnf);first|refine Ak ?_|(apply Fork.mk<;>(intro _;try(exfalso;omega)))|fail));all_goals((conv=>whnf);try with_reducible apply At.mk)))
 all_goals((refine Au ?_);first|exact CI rfl Al|exact Ch rfl Al)
theorem lD {h:H}{lo hi:Int}:AW Tryz.prog 36 h.next h [.agg ⟨[.int .i64 lo,.int .i64 hi]⟩] (fun v _=>v= .bool (decide (-100000<=lo/\lo<=hi/\hi<=100000))):=by
 refine Af3.call rfl (Nat.le_refl _) ?_
 unfold a36
 (focus((try with_reducible apply wpC.to);(repeat'((conv=>whnf);first|refine Ak ?_|(apply Fork.mk<;>(intro _;try(exfalso;omega)))|fail));all_goals((conv=>whnf);try with_reducible apply At.mk)))
 all_goals((refine Au ?_);first|exact CI rfl Al|exact Ch rfl Al)
theorem kTSpanB5 {G G':Prop}(g:G') (t:G'->G:=by((apply Ar);(focus exact Ao);(focus exact AQ);(focus((apply oX))))):G:=t g
theorem kTSpanB6 {G G':Prop}(g:G') (t:G'->G:=by((apply Ar);(focus exact Ao);(focus exact AQ);(focus((apply lD))))):G:=t g
theorem XT {h:H}{L:Runs}{i o k:Nat}{l:List Value}(e:JP h L.a L.n 4 (fun i=>(L.f i).cells)) (hi:i<L.n) (hc:cut (L.f i).cells o k=some l):h.Bu (BI (BI L.a (i*4)) o) k=some l:=IB (e i hi) hc
theorem A8 {G G':Prop}(g:G') (t:G'->G:=by(((with_reducible apply Ei.mk);(focus((repeat(first|(apply XT<;>first|assumption|omega|exact rfl)|with_reducible apply Jl|((with_reducible apply KG);focus(dsimp only[BI];omega))|((with_reducible apply Hq);(focus assumption);focus(dsimp only[BI];omega))|((with_reducible apply IY);(focus assumption);focus(dsimp only[BI];omega))));(first|done|fail)));(focus exact Nj)))):G:=t g
theorem Ba {G G':Prop}(g:G') (t:G'->G:=by(((with_reducible apply Mi.mk);(focus((repeat(first|(apply XT<;>first|assumption|omega|exact rfl)|with_reducible apply Jl|((with_reducible apply KG);focus(dsimp only[BI];omega))|((with_reducible apply Hq);(focus assumption);focus(dsimp only[BI];omega))|((with_reducible apply IY);(focus assumption);focus(dsimp only[BI];omega))));(first|done|fail)));(focus exact Jk)))):G:=t g
set_option maxHeartbeats 1000000 in
theorem QA {h:H}{L:Runs}{m:Nat}(hm:m<=h.next) (hL:L.Ok m h):AW Tryz.prog 8 h.next h [.slice L.b L.n L.c] (fun v _=>v= .int .i64 L.err):=by
 obtain⟨e1,i1,r1,l1⟩:=hL
 refine Anj.call rfl (Nat.le_refl _) ?_
 unfold a8
 (focus((try with_reducible apply wpC.to);(repeat'((conv=>whnf);first|refine Ak ?_|(apply Fork.mk<;>(intro _;try(exfalso;omega)))|((first|refine kTSpanB6 ?_|refine kTSpanB5 ?_);first|((first|apply Ae|apply Ac|apply Ad)<;>intro _ _ _ _<;>try contradiction)|(apply Ab;intro _ _ _))|refine Ba ?_|refine A8 ?_|fail));all_goals((conv=>whnf);try with_reducible apply At.mk)))
 ·(refine Au ?_)
  rw[L.vZ Al]
 refine wp_loop (fun s:Nat=>[(0,.slice L.b L.n L.c),(3,.int .i64 s)]) (fun s h1=>Same m h h1/\h.next<=h1.next/\s<=L.n/\∀i,i<s->(L.f i).Ok) (fun s=>L.n - s) 0 ⟨rfl,rfl,trivial⟩ ⟨Aq,Ah,by omega,fun i hi=>absurd hi (Nat.not_lt_zero i)⟩ ?_
 rintro s g h1 ⟨sm,n1,hs,hp⟩ K hK
 by_cases hsn:s<L.n
 ·have x1:=r1 Al
  have i5:=i1.same sm r1
  have bad:¬(L.f s).Ok->L.err=2:=fun k=>L.wh Al fun hv=>k (hv s hsn)
  (focus((try with_reducible apply wpC.to);(repeat'((conv=>whnf);first|refine Ak ?_|(apply Fork.mk<;>(intro _;try(exfalso;omega)))|((first|refine kTSpanB6 ?_|refine kTSpanB5 ?_);first|((first|apply Ae|apply Ac|apply Ad)<;>intro _ _ _ _<;>try contradiction)|(apply Ab;intro _ _ _))|refine Ba ?_|refine A8 ?_|fail));all_goals((conv=>whnf);try with_reducible apply At.mk)))
  all_goals first
   |((refine Au ?_);rw[bad (fun k=>by obtain⟨a,b,c,d,e,f⟩:=k;omega)])
   | (refine hK (s+1) _ _ ⟨rfl,AK rfl Al,trivial⟩ ⟨Aq,Ah,by omega,fun i hi=>?_⟩ Al
      by_cases e:i=s
      ·subst e;exact⟨by omega,by omega,by omega,by omega,by omega,by omega⟩
      ·exact hp i Al)
 ·obtain rfl:s=L.n:=by omega
  (refine Aj ?_)
  (refine Au ?_)
  rw[L.oZ Al hp]
theorem kTSpanB7 {G G':Prop}(g:G') (t:G'->G:=by((apply Ar);(focus exact Ao);(focus exact AQ);(focus((apply QA;rotate_left;(focus(apply Runs.Ok.same;(focus assumption);(focus exact Aq);(focus exact Nat.le_refl _)));(focus exact Ah)))))):G:=t g
end AE.Tryz.Spn
