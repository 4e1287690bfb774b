/- Walks and plain laws: AgreeCells, TAgreeA, TAgreeB, TAgreeC, TAgreeD, TAgreeE, TAgreeF. -/
import Derived.Test.YtneenfjffejnoaaGreatAEthree
import Derived.Test.YtneenfjffejnoaaGreatJoin30
import Derived.Test.YtneenfjffejnoaaGreatAEBy2
import Derived.Test.YtneenfjffejnoaaGreatT9Code
set_option linter.unusedVariables false
set_option linter.unusedSimpArgs false
set_option linter.unusedSectionVars false

/- How nets and heights lie in cells. -/
set_option linter.unusedVariables false
namespace AE.Ag
open Go AE AgreeS

def Db:Option Int->List Value
 |some m=>[.bool true,.int .i64 m]
 |none=>[.bool false,.int .i64 0]
def CR (k:Known):List Value:=rowsOf (fun i=>Db (k i)) 13
def B6 (B:Net):List Value:=rowsOf (fun f=>CR (B f)) 13

theorem Jm (o:Option Int):(Db o).length=2:=by cases o<;>rfl
theorem Ea (k:Known):(CR k).length=26:=E5 (fun _=>Jm _) 13
theorem LK (B:Net):(B6 B).length=338:=E5 (fun _=>Ea _) 13

theorem NG (k:Known) {t a:Nat}(ht:t<13) (p s:List Value) (ha:a=p.length+t*2):cut (p++CR k++s) a 2=some (Db (k t)):=
 EN (g:=fun i=>Db (k i)) (fun _=>Jm _) ht p s ha
theorem NF (k:Known) {t a:Nat}(v:Option Int) (ht:t<13) (p s:List Value) (ha:a=p.length+t*2):splice (p++CR k++s) a (Db v)=p++CR (upd k t v)++s:=by
 have:=JS (g:=fun i=>Db (k i)) (fun _=>Jm _) ht p s (Db v) (Jm _) ha
 have e:VH (fun i=>Db (k i)) t (Db v)=fun i=>Db (upd k t v i):=by
  funext i;simp only[VH,upd];split<;>rfl
 rw[e]at this
 exact this
theorem LJ (B:Net) {f a:Nat}(hf:f<13) (p s:List Value) (ha:a=p.length+f*26):cut (p++B6 B++s) a 26=some (CR (B f)):=
 EN (g:=fun f=>CR (B f)) (fun _=>Ea _) hf p s ha
theorem Qr (B:Net) {f t a:Nat}(hf:f<13) (ht:t<13) (p s:List Value) (ha:a=p.length+f*26+t*2):cut (p++B6 B++s) a 2=some (Db (B f t)):=by
 subst ha
 have h1:=LJ B hf p s rfl
 have h2:=NG (B f) ht [] [] (a:=t*2) (by simp)
 simp only[List.nil_append,List.append_nil]at h2
 exact MJ h1 h2
theorem Qq {B B':Net}{f t a:Nat}{v:Option Int}(hB:∀i j,B' i j=if i=f/\j=t then v else B i j) (hf:f<13) (ht:t<13) (p s:List Value) (ha:a=p.length+f*26+t*2):splice (p++B6 B++s) a (Db v)=p++B6 B'++s:=by
 subst ha
 have h1:=LJ B hf p s rfl
 rw[TV h1 (by rw[Jm];omega)]
 have h2:=NF (B f) v ht [] [] (a:=t*2) (by simp)
 simp only[List.nil_append,List.append_nil]at h2
 rw[h2]
 have:=JS (g:=fun f=>CR (B f)) (fun _=>Ea _) hf p s (CR (upd (B f) t v)) (Ea _) rfl
 have e:VH (fun f=>CR (B f)) f (CR (upd (B f) t v))=fun f=>CR (B' f):=by
  funext i;simp only[VH];split
  ·rename_i h;subst h
   congr 1;funext j;simp only[upd,hB];simp
  ·rename_i h
   congr 1;funext j;simp[hB,h]
 rw[e]at this
 exact this

theorem T7 (o:Option Int):(Db o).all Value.oneCell'=true:=by cases o<;>rfl

attribute [irreducible] B6 CR

end AE.Ag

/- Walks of agree: tables, small functions. -/
namespace AE.Tryz.Agr
open Go AE AE.Ag AgreeS Go.Proofs
set_option maxRecDepth 100000

structure F1 where
 tank:Int
 hull:Int
 lo:Int
 hi:Int
def F1.cells (x:F1):List Value:=[.int .i64 x.tank,.int .i64 x.hull,.int .i64 x.lo,.int .i64 x.hi]
structure Tab where
 tanks:Int
 hulls:Int
 Ue:Int
 TT:Int
 n:Nat
 f:Nat->F1
 b:Option Addr
 a:Addr
 c:Nat
def Tab.cells (T:Tab):List Value:=[.int .i64 T.tanks,.int .i64 T.hulls,.int .i64 T.Ue,.int .i64 T.TT,.slice T.b T.n T.c]
structure Tab.Ok (T:Tab) (m:Nat) (h:H):Prop where
 e:0<T.n->T.b=some T.a
 i:JP h T.a T.n 4 (fun i=>(T.f i).cells)
 r:0<T.n->T.a.block<m
 l:T.n<=9223372036854775807
theorem Tab.Ok.same {T:Tab}{m m':Nat}{h h':H}(k:T.Ok m h) (s:Same m h h') (hm:m<=m'):T.Ok m' h':=
 ⟨k.e,k.i.same s k.r,fun h=>by have:=k.r h;omega,k.l⟩


theorem Ec {g:FuncId}{first CL args xs:List Value}{lo:Nat}{h:H}{R:Value->H->Prop}(hc:AW Tryz.prog g lo h xs R) (e:first++args++CL=xs):∃v h',R v h'/\CX Tryz.prog (.func (.func g) ⟨first⟩ ⟨CL⟩) lo h args v h':=by
 obtain⟨v,h',r,a⟩:=hc
 subst e
 exact⟨v,h',r,a.Vv⟩
theorem CJ {fv:Value}{args:List Value}{lo lo':Nat}{h:H}{R:Value->H->Prop}(hc:∃v h',R v h'/\CX Tryz.prog fv lo h args v h') (hl:lo'<=lo):∃v h',R v h'/\CX Tryz.prog fv lo' h args v h':=
 let⟨v,h',r,a⟩:=hc;⟨v,h',r,a.mono hl⟩

structure G9 where
 n:Nat
 f:Nat->Int
 b:Option Addr
 a:Addr
 c:Nat
def G9.val (T:G9):Value:=.slice T.b T.n T.c
structure G9.Ok (T:G9) (m:Nat) (h:H):Prop where
 e:0<T.n->T.b=some T.a
 i:Ints h T.a T.n T.f
 r:0<T.n->T.a.block<m
 l:T.n<=9223372036854775807
theorem G9.Ok.same {T:G9}{m m':Nat}{h h':H}(k:T.Ok m h) (s:Same m h h') (hm:m<=m'):T.Ok m' h':=
 ⟨k.e,k.i.same s k.r,fun h=>by have:=k.r h;omega,k.l⟩

theorem Wz {h:H}{T:Tab}{m:Nat}(hm:m<=h.next) (hT:T.Ok m h) {pf:Value}{p:Nat->Bool}(hy:∀i h1,i<T.n->Quiet h.next h h1->∃v h2,v= .bool (p i)/\CX Tryz.prog pf h1.next h1 [.agg ⟨(T.f i).cells⟩] v h2):
 AW Tryz.prog 188 h.next h [.slice T.b T.n T.c,pf] (fun v _=>∃z,v= .int .i64 z/\(0<=z↔∃i,i<T.n/\p i=true)):=by
 obtain⟨e1,i1,r1,l1⟩:=hT
 refine zZ.call rfl (Nat.le_refl _) ?_
 unfold Aii
 (refine Aj ?_)
 refine wp_loop (fun s:Nat=>[(0,.slice T.b T.n T.c),(1,pf),(7,.int .i64 T.n),(8,.int .i64 s)]) (fun s h1=>Quiet h.next h h1/\s<=T.n/\∀i,i<s->p i=false) (fun s=>T.n - s) 0 ⟨rfl,rfl,rfl,rfl,trivial⟩ ⟨?_,by omega,fun i hi=>by omega⟩ ?_
 ·(exact AO)
 rintro s g h1 ⟨q,hs,hp⟩ K hK
 have hnx:=q.next
 (focus((try with_reducible apply wpC.to);(repeat'((conv=>whnf);first|refine Ak ?_|(apply Fork.mk<;>(intro _;try(exfalso;omega)))|fail));all_goals((conv=>whnf);try with_reducible apply At.mk)))
 ·apply Dx
  focus exact CJ (hy s _ Al AO) Ah
  rintro _ h2 rfl q2
  have hnx2:=q2.next
  cases hb:p s with
  | true=>
    (refine Aj ?_)
    (refine Au ?_)
    exact⟨_,rfl,⟨fun _=>⟨s,by omega,hb⟩,fun _=>by omega⟩⟩
  | false=>
    (refine Aj ?_)
    refine hK (s+1) _ _ ⟨rfl,rfl,rfl,AK rfl Al,trivial⟩ ⟨AO,by omega,fun i hi=>?_⟩ Al
    by_cases e:i=s
    ·subst e;exact hb
    ·exact hp i Al
 ·(refine Au ?_)
  refine⟨_,rfl,⟨fun h=>by omega,fun⟨i,hi,hpi⟩=>?_⟩⟩
  rw[hp i Al]at hpi
  cases hpi
theorem NW {h:H}{T:Tab}{m:Nat}(hm:m<=h.next) (hT:T.Ok m h) {pf:Value}{p:Nat->Bool}(hy:∀i h1,i<T.n->Quiet h.next h h1->∃v h2,v= .bool (p i)/\CX Tryz.prog pf h1.next h1 [.agg ⟨(T.f i).cells⟩] v h2):
 AW Tryz.prog 98 h.next h [.slice T.b T.n T.c,pf] (fun v _=>v= .bool (decide (∃i,i<T.n/\p i=true))):=by
 refine Ae0.call rfl (Nat.le_refl _) ?_
 unfold a98
 (refine Aj ?_)
 apply Ar
 focus(exact Ao)
 focus(exact AQ)
 focus exact Wz (m:=m) Ah (hT.same Aq (Nat.le_refl _)) fun i h1 hi q=>hy i h1 hi (Quiet.trans AO (q.mono Ah))
 rintro _ h1 ⟨z,rfl,hz⟩ q hn
 (focus((try with_reducible apply wpC.to);(repeat'((conv=>whnf);first|refine Ak ?_|(apply Fork.mk<;>(intro _;try(exfalso;omega)))|fail));all_goals((conv=>whnf);try with_reducible apply At.mk)))
 all_goals(refine Au ?_)
 ·exact CI rfl (hz.1 Al)
 ·exact Ch rfl (fun h=>by have:=hz.2 h;omega)

theorem WB {h:H}{T:G9}{m:Nat}(hm:m<=h.next) (hT:T.Ok m h) {pf:Value}{p:Nat->Bool}(hy:∀i h1,i<T.n->Quiet h.next h h1->∃v h2,v= .bool (p i)/\CX Tryz.prog pf h1.next h1 [.int .i64 (T.f i)] v h2):
 AW Tryz.prog 205 h.next h [.slice T.b T.n T.c,pf] (fun v _=>∃z,v= .int .i64 z/\(0<=z↔∃i,i<T.n/\p i=true)):=by
 obtain⟨e1,i1,r1,l1⟩:=hT
 refine bT.call rfl (Nat.le_refl _) ?_
 unfold uX
 (refine Aj ?_)
 refine wp_loop (fun s:Nat=>[(0,.slice T.b T.n T.c),(1,pf),(7,.int .i64 T.n),(8,.int .i64 s)]) (fun s h1=>Quiet h.next h h1/\s<=T.n/\∀i,i<s->p i=false) (fun s=>T.n - s) 0 ⟨rfl,rfl,rfl,rfl,trivial⟩ ⟨?_,by omega,fun i hi=>by omega⟩ ?_
 ·(exact AO)
 rintro s g h1 ⟨q,hs,hp⟩ K hK
 have hnx:=q.next
 (focus((try with_reducible apply wpC.to);(repeat'((conv=>whnf);first|refine Ak ?_|(apply Fork.mk<;>(intro _;try(exfalso;omega)))|fail));all_goals((conv=>whnf);try with_reducible apply At.mk)))
 ·apply Dx
  focus exact CJ (hy s _ Al AO) Ah
  rintro _ h2 rfl q2
  have hnx2:=q2.next
  cases hb:p s with
  | true=>
    (refine Aj ?_)
    (refine Au ?_)
    exact⟨_,rfl,⟨fun _=>⟨s,by omega,hb⟩,fun _=>by omega⟩⟩
  | false=>
    (refine Aj ?_)
    refine hK (s+1) _ _ ⟨rfl,rfl,rfl,AK rfl Al,trivial⟩ ⟨AO,by omega,fun i hi=>?_⟩ Al
    by_cases e:i=s
    ·subst e;exact hb
    ·exact hp i Al
 ·(refine Au ?_)
  refine⟨_,rfl,⟨fun h=>by omega,fun⟨i,hi,hpi⟩=>?_⟩⟩
  rw[hp i Al]at hpi
  cases hpi
theorem cV {h:H}{T:G9}{m:Nat}(hm:m<=h.next) (hT:T.Ok m h) {pf:Value}{p:Nat->Bool}(hy:∀i h1,i<T.n->Quiet h.next h h1->∃v h2,v= .bool (p i)/\CX Tryz.prog pf h1.next h1 [.int .i64 (T.f i)] v h2):
 AW Tryz.prog 118 h.next h [.slice T.b T.n T.c,pf] (fun v _=>v= .bool (decide (∃i,i<T.n/\p i=true))):=by
 refine bU.call rfl (Nat.le_refl _) ?_
 unfold uY
 (refine Aj ?_)
 apply Ar
 focus(exact Ao)
 focus(exact AQ)
 focus exact WB (m:=m) Ah (hT.same Aq (Nat.le_refl _)) fun i h1 hi q=>hy i h1 hi (Quiet.trans AO (q.mono Ah))
 rintro _ h1 ⟨z,rfl,hz⟩ q hn
 (focus((try with_reducible apply wpC.to);(repeat'((conv=>whnf);first|refine Ak ?_|(apply Fork.mk<;>(intro _;try(exfalso;omega)))|fail));all_goals((conv=>whnf);try with_reducible apply At.mk)))
 all_goals(refine Au ?_)
 ·exact CI rfl (hz.1 Al)
 ·exact Ch rfl (fun h=>by have:=hz.2 h;omega)


theorem j0 {h:H}{r:Nat}{n most:Int}{e:TypeId}(hg:h.get r=some (.cells [.int .i64 most] e)) (h0:0<=most) (h1:most<=4611686018427387904):AW Tryz.prog 145 h.next h [.int .i64 n,.pointer (some ⟨r,0,none⟩)] (fun v _=>v= .bool (decide (n< -most\/most<n))):=by
 refine z4.call rfl (Nat.le_refl _) ?_
 unfold a145
 (focus((try with_reducible apply wpC.to);(repeat'((conv=>whnf);first|refine Ak ?_|(apply Fork.mk<;>(intro _;try(exfalso;omega)))|fail));all_goals((conv=>whnf);try with_reducible apply At.mk)))
 all_goals((refine Au ?_);first|exact CI rfl Al|exact Ch rfl Al)

theorem Pp {h:H}{T:G9}{m:Nat}{most:Int}(hm:m<=h.next) (hT:T.Ok m h) (h0:0<=most) (h1:most<=4611686018427387904):
 AW Tryz.prog 74 h.next h [.int .i64 most,.slice T.b T.n T.c] (fun v _=>v= .bool (decide (∀i,i<T.n-> -most<=T.f i/\T.f i<=most))):=by
 refine Ae5.call rfl (Nat.le_refl _) ?_
 unfold a74
 (refine Aj ?_)
 apply Fp
 focus(exact Ao)
 focus(exact AQ)
 focus
  refine cV (m:=m) (p:=fun i=>decide (T.f i< -most\/most<T.f i)) Ah (hT.same Aq (Nat.le_refl _)) fun i k1 hi q=>?_
  exact Ec (j0 (e:=2) (r:=h.next) (most:=most) ((q.same _ Ah).trans Aa) h0 h1) rfl
 ·intro hb h2 q hn
  (refine Aj ?_)
  (refine Au ?_)
  refine Ch rfl fun hall=>?_
  obtain⟨i,hi,h3⟩:=of_decide_eq_true hb
  have:=hall i hi
  have:=of_decide_eq_true h3
  omega
 ·intro hb h2 q hn
  (refine Aj ?_)
  (refine Au ?_)
  refine CI rfl fun i hi=>?_
  have:=of_decide_eq_false hb
  by_cases hx:T.f i< -most\/most<T.f i
  ·exact absurd ⟨i,hi,decide_eq_true hx⟩ this
  ·omega

end AE.Tryz.Agr

/- Walks of agree: valid tables. -/
namespace AE.Tryz.Agr
open Go AE AE.Ag AgreeS Go.Proofs
set_option maxRecDepth 100000

def TR (lo hi:Int):Prop:=lo<=hi/\ -1000000<=lo/\hi<=1000000
instance (lo hi:Int):Decidable (TR lo hi):=by unfold TR;infer_instance

theorem jq {h:H}{lo hi:Int}:AW Tryz.prog 97 h.next h [.agg ⟨[.int .i64 lo,.int .i64 hi]⟩] (fun v _=>v= .bool (decide (TR lo hi))):=by
 refine Ae1.call rfl (Nat.le_refl _) ?_
 unfold a97
 (focus((try with_reducible apply wpC.to);(repeat'((conv=>whnf);first|refine Ak ?_|(apply Fork.mk<;>(intro _;try(exfalso;omega)))|fail));all_goals((conv=>whnf);try with_reducible apply At.mk)))
 ·apply Fp
  focus(exact Ao)
  focus(exact AQ)
  focus
   refine Pp (T:=⟨2,fun i=>if i=0 then lo else hi,some ⟨h.next+12,0,none⟩,⟨h.next+12,0,none⟩,2⟩) (m:=h.next+13) Ah ⟨fun _=>rfl,fun i hi=>?_,fun _=>by simp only;omega,by simp⟩ Al Al
   have:i=0\/i=1:=by simp only at hi;omega
   rcases this with rfl|rfl
   ·exact Di (off:=0+0) Aa rfl
   ·exact Di (off:=0+1) Aa rfl
  ·intro hb h2 q hn
   (refine Aj ?_)
   (refine Au ?_)
   have:=of_decide_eq_true hb
   have h0:=this 0 (by simp)
   have h1: -1000000<=hi/\hi<=1000000:=this 1 (by simp)
   simp only[if_true]at h0
   exact CI rfl (by unfold TR;omega)
  ·intro hb h2 q hn
   (refine Aj ?_)
   (refine Au ?_)
   have:=of_decide_eq_false hb
   refine Ch rfl fun hr=>this fun i _=>?_
   unfold TR at hr
   simp only
   split<;>omega
 ·(refine Au ?_)
  exact Ch rfl (by unfold TR;omega)
theorem kTAgreeB0 {G G':Prop}(g:G') (t:G'->G:=by((apply Ar);(focus exact Ao);(focus exact AQ);(focus(exact jq)))):G:=t g

theorem Amx {h:H}{a b:Int}:AW Tryz.prog 96 h.next h [.int .i64 a,.int .i64 b] (fun v _=>v= .bool (decide (0<=a/\a<b))):=by
 refine Ae2.call rfl (Nat.le_refl _) ?_
 unfold a96
 (focus((try with_reducible apply wpC.to);(repeat'((conv=>whnf);first|refine Ak ?_|(apply Fork.mk<;>(intro _;try(exfalso;omega)))|fail));all_goals((conv=>whnf);try with_reducible apply At.mk)))
 all_goals((refine Au ?_);first|exact CI rfl Al|exact Ch rfl Al)
theorem kTAgreeB1 {G G':Prop}(g:G') (t:G'->G:=by((apply Ar);(focus exact Ao);(focus exact AQ);(focus(exact Amx)))):G:=t g
theorem ko {h:H}{x:F1}{r s:Nat}{tanks hulls:Int}{cs:List Value}{e e':TypeId}(hr:r<h.next) (hs':s<h.next) (hg:h.get r=some (.cells [.func (.func 96) ⟨[]⟩ ⟨[]⟩] e)) (hs:h.get s=some (.cells (.int .i64 tanks:: .int .i64 hulls::cs) e')):
 AW Tryz.prog 99 h.next h [.agg ⟨x.cells⟩,.pointer (some ⟨r,0,none⟩),.pointer (some ⟨s,0,none⟩)] (fun v _=>v= .bool (decide (¬((0<=x.tank/\x.tank<tanks)/\(0<=x.hull/\x.hull<hulls))))):=by
 refine Aez.call rfl (Nat.le_refl _) ?_
 unfold a99
 (focus((try with_reducible apply wpC.to);(repeat'((conv=>whnf);first|refine Ak ?_|((refine kTAgreeB1 ?_);first|((first|apply Ae|apply Ac|apply Ad)<;>intro _ _ _ _<;>try contradiction)|(apply Ab;intro _ _ _))|fail));all_goals((conv=>whnf);try with_reducible apply At.mk)))
 all_goals((refine Au ?_);first|exact CI rfl Al|exact Ch rfl Al)
theorem cQ {h:H}{x:F1}:AW Tryz.prog 100 h.next h [.agg ⟨x.cells⟩] (fun v _=>v= .bool (decide (¬TR x.lo x.hi))):=by
 refine Aa9.call rfl (Nat.le_refl _) ?_
 unfold Ai9
 (focus((try with_reducible apply wpC.to);(repeat'((conv=>whnf);first|refine Ak ?_|((refine kTAgreeB0 ?_);first|((first|apply Ae|apply Ac|apply Ad)<;>intro _ _ _ _<;>try contradiction)|(apply Ab;intro _ _ _))|fail));all_goals((conv=>whnf);try with_reducible apply At.mk)))
 all_goals(refine Au ?_)
 all_goals first|exact CI rfl (by assumption)|exact Ch rfl (by simpa using ‹TR x.lo x.hi›)

structure Tab.Valid (T:Tab):Prop where
 n:T.n<=24
 t1:1<=T.tanks
 t2:T.tanks<=6
 h1:1<=T.hulls
 h2:T.hulls<=6
 b:TR T.Ue T.TT
 f:∀i,i<T.n->(0<=(T.f i).tank/\(T.f i).tank<T.tanks)/\(0<=(T.f i).hull/\(T.f i).hull<T.hulls)/\TR (T.f i).lo (T.f i).hi

theorem Iu {h:H}{T:Tab}{m:Nat}(hm:m<=h.next) (hT:T.Ok m h) (hv:T.Valid):AW Tryz.prog 38 h.next h [.agg ⟨T.cells⟩] (fun v _=>v= .int .i64 0):=by
 obtain⟨n24,t1,t2,h1,h2,hb,hf⟩:=hv
 refine Af1.call rfl (Nat.le_refl _) ?_
 unfold a38
 (focus((try with_reducible apply wpC.to);(repeat'((conv=>whnf);first|refine Ak ?_|(apply Fork.mk<;>(intro _;try(exfalso;omega)))|((first|refine kTAgreeB1 ?_|refine kTAgreeB0 ?_);first|((first|apply Ae|apply Ac|apply Ad)<;>intro _ _ _ _<;>try contradiction)|(apply Ab;intro _ _ _))|fail));all_goals((conv=>whnf);try with_reducible apply At.mk)))
 apply Fp
 focus(exact Ao)
 focus(exact AQ)
 focus
  refine NW (m:=m) (p:=fun i=>decide (¬((0<=(T.f i).tank/\(T.f i).tank<T.tanks)/\(0<=(T.f i).hull/\(T.f i).hull<T.hulls)))) Ah (hT.same Aq (Nat.le_refl _)) fun i k1 hi q=>?_
  have hq:=q.next
  exact Ec (ko (x:=T.f i) (r:=h.next+2) (s:=h.next) (e:=178) (e':=31) (tanks:=T.tanks) (hulls:=T.hulls) Ah Ah ((q.same _ Ah).trans Aa) ((q.same _ Ah).trans Aa)) rfl
 ·intro hb' h2 q hn
  exfalso
  obtain⟨i,hi,hp⟩:=of_decide_eq_true hb'
  have:=of_decide_eq_true hp
  have:=hf i hi
  omega
 intro _ h2 q hn
 (refine Aj ?_)
 apply Fp
 focus(exact Ao)
 focus(exact AQ)
 focus
  refine NW (m:=m) (p:=fun i=>decide (¬TR (T.f i).lo (T.f i).hi)) Ah (hT.same Aq (Nat.le_refl _)) fun i k1 hi q=>?_
  exact Ec (cQ (x:=T.f i)) rfl
 ·intro hb' h2 q hn
  exfalso
  obtain⟨i,hi,hp⟩:=of_decide_eq_true hb'
  exact of_decide_eq_true hp (hf i hi).2.2
 intro _ h2 q hn
 (refine Aj ?_)
 (refine Au ?_)
 rfl

end AE.Tryz.Agr

/- Walks of agree: nets. -/
namespace AE.Tryz.Agr
open Go AE AE.Ag AgreeS Go.Proofs
set_option maxRecDepth 100000

theorem Adm {h:H}{r:Nat}{x:Int}{b:Bool}{e:TypeId}(hr:r<h.next) (hg:h.get r=some (.cells [.bool b,.int .i64 x] e)):AW Tryz.prog 190 h.next h [.pointer (some ⟨r,0,none⟩)] (fun v _=>v= .tuple #[.int .i64 x,.bool b]):=by
 refine zX.call rfl (Nat.le_refl _) ?_
 unfold Aig
 (refine Aj ?_)
 all_goals(refine Au ?_)
 all_goals rfl
theorem mZ {h:H}{a x:Int}{b:Bool}{fv:Value}(hy:∀h1,Quiet h.next h h1->∃v h2,v= .tuple #[.int .i64 x,.bool b]/\CX Tryz.prog fv h1.next h1 [] v h2):AW Tryz.prog 189 h.next h [.int .i64 a,fv] (fun v _=>v= .int .i64 (if b then min a x else a)):=by
 refine zY.call rfl (Nat.le_refl _) ?_
 unfold Aih
 (refine Aj ?_)
 apply Dx
 focus exact CJ (hy _ AO) Ah
 rintro _ h2 rfl q
 cases b with
 | true=>
   (refine Aj ?_)
   all_goals(refine Au ?_)
   all_goals exact AK rfl (by first|(simp only[if_true];done)|(simp only[if_true];omega))
 | false=>
   (refine Aj ?_)
   (refine Au ?_)
   exact AK rfl (by simp)

theorem Nf {l m:List Value}(h:l=m):Is l m:=h▸Is.rfl

theorem Adg {h:H}{lo r f t:Nat}{m:Int}{hd:List Value}{B:Net}{e:TypeId}(hlo:lo<=r) (hr:r<h.next) (hd6:hd.length=6) (hf:f<13) (ht:t<13) (hg:h.get r=some (.cells (hd++B6 B) e)):
 AW Tryz.prog 101 lo h [.pointer (some ⟨r,0,none⟩),.int .i64 f,.int .i64 t,.int .i64 m] (fun _ h'=>h'.get r=some (.cells (hd++B6 (AgreeS.put B f t m)) e)/\∀s,s<h.next->s≠r->h'.get s=h.get s):=by
 refine Aa8.call rfl Al ?_
 unfold Ai8
 obtain⟨b,x,hbx,hmin⟩:∃b x,Db (B f t)=[.bool b,.int .i64 x]/\AgreeS.put B f t m f t=some (if b then min m x else m):=by
  cases hb:B f t with
  |none=>exact⟨false,0,rfl,by simp[AgreeS.put,hb]⟩
  |some o=>exact⟨true,o,rfl,by simp[AgreeS.put,hb]⟩
 have hld:∀h1:H,h1.get r=some (.cells (hd++B6 B) e)->h1.Bu ⟨r,0+6+f*26+t*2,none⟩ 2=some [.bool b,.int .i64 x]:=fun h1 h1g=>
  CP h1g (by
   have:=Qr B hf ht hd [] (a:=0+6+f*26+t*2) Al
   rw[<-hbx]
   simpa using this)
 have hst:splice (hd++B6 B) (0+6+f*26+t*2) [.bool true,.int .i64 (if b then min m x else m)]=hd++B6 (AgreeS.put B f t m):=by
  have:=Qq (B:=B) (B':=AgreeS.put B f t m) (v:=some (if b then min m x else m)) (a:=0+6+f*26+t*2) (fun i j=>by
   by_cases hij:i=f/\j=t
   ·obtain⟨rfl,rfl⟩:=hij;rw[hmin];simp
   ·simp[AgreeS.put,hij]) hf ht hd [] Al
  simpa[Db]using this
 (refine Aj ?_)
 refine Mi.mk (hld _ Aa) Is.rfl ?_
 (refine Aj ?_)
 apply Dw
 focus(exact Ao)
 focus(exact AQ)
 focus exact mZ (b:=b) (x:=x) fun h1 q=>Ec (Adm (e:=182) (r:=h.next+8) (by have:=q.next;(exact Ah)) ((q.same _ Ah).trans Aa)) rfl
 intro h2 q hn
 (refine Aj ?_)
 refine Xq.mk (r:=r) (off:=0+6+f*26+t*2) rfl hlo Aa rfl rfl (Nat.ble_eq_true_of_le (by simp[hd6,LK];omega)) (Nf hst) ?_
 (refine Aj ?_)
 (refine Au ?_)
 refine⟨Aa,fun s hs hne=>?_⟩
 generalize hx:h.get s=y
 (exact Aa)

end AE.Tryz.Agr

/- Walks of agree: the net of a table. -/
namespace AE.Tryz.Agr
open Go AE AE.Ag AgreeS Go.Proofs
set_option maxRecDepth 100000

def F1.toTest (x:F1):Test:=⟨x.tank.toNat,x.hull.toNat,x.lo,x.hi⟩
def Tab.toTable (T:Tab):Table:=⟨T.tanks.toNat,T.hulls.toNat,T.Ue,T.TT,(List.range T.n).map fun i=>(T.f i).toTest⟩
theorem Tab.Valid.ok {T:Tab}(v:T.Valid):T.toTable.Ok:=by
 obtain⟨n24,t1,t2,h1,h2,hb,hf⟩:=v
 unfold TR at hb
 refine⟨by simp only[Tab.toTable];omega,by simp only[Tab.toTable];omega,by simp only[Tab.toTable];omega,by simp only[Tab.toTable];omega,hb.1,by simp only[Tab.toTable,M];omega,by simp only[Tab.toTable,M];omega,fun x hx=>?_⟩
 simp only[Tab.toTable,List.mem_map,List.mem_range]at hx
 obtain⟨i,hi,rfl⟩:=hx
 obtain⟨a,b,c⟩:=hf i hi
 unfold TR at c
 exact⟨by simp only[Tab.toTable,F1.toTest];omega,by simp only[Tab.toTable,F1.toTest];omega,c.1,by simp only[F1.toTest,M];omega,by simp only[F1.toTest,M];omega⟩

def Tab.head (T:Tab):List Value:=T.cells++[.int .i64 (1+T.tanks+T.hulls)]
theorem Tab.HR (T:Tab):T.head.length=6:=rfl

def Kb (T:Tab) (k:Nat):Net:=((List.range k).map fun i=>(T.f i).toTest).foldl (Gj T.toTable) ((List.range T.tanks.toNat).foldl (Fq T.toTable) empty)
theorem UM (T:Tab):Kb T T.n=BO T.toTable:=rfl
theorem SB (T:Tab) (k:Nat):Kb T (k+1)=Gj T.toTable (Kb T k) (T.f k).toTest:=by
 simp[Kb,List.range_succ]
def GA (T:Tab) (k:Nat):Net:=(List.range k).foldl (Fq T.toTable) empty
theorem Lp (T:Tab) (k:Nat):GA T (k+1)=Fq T.toTable (GA T k) k:=by
 simp[GA,List.range_succ]
theorem SA (T:Tab):Kb T 0=GA T T.tanks.toNat:=rfl

theorem dY {h:H}{lo r f t:Nat}{fi ti m:Int}{hd:List Value}{B:Net}{e:TypeId}(hlo:lo<=r) (hr:r<h.next) (hd6:hd.length=6) (hf:f<13) (ht:t<13) (hfi:fi=(f:Int)) (hti:ti=(t:Int)) (hg:h.get r=some (.cells (hd++B6 B) e)):
 AW Tryz.prog 101 lo h [.pointer (some ⟨r,0,none⟩),.int .i64 fi,.int .i64 ti,.int .i64 m] (fun _ h'=>h'.get r=some (.cells (hd++B6 (AgreeS.put B f t m)) e)/\∀s,s<h.next->s≠r->h'.get s=h.get s):=by
 subst hfi;subst hti
 exact Adg hlo hr hd6 hf ht hg

set_option maxHeartbeats 1000000 in
theorem Sz {h:H}{T:Tab}{m:Nat}(hm:m<=h.next) (hT:T.Ok m h) (hv:T.Valid):
 AW Tryz.prog 39 h.next h [.agg ⟨T.cells⟩] (fun v h'=>∃r e,v= .pointer (some ⟨r,0,none⟩)/\h.next<=r/\r<h'.next/\h'.get r=some (.cells (T.head++B6 (BO T.toTable)) e)):=by
 have hok:=hv.ok
 obtain⟨n24,t1,t2,h1,h2,hb,hf⟩:=hv
 unfold TR at hb
 refine Af0.call rfl Al ?_
 unfold a39
 (refine Aj ?_)
 refine wp_loop (fun s:Nat=>[(1,.pointer (some ⟨h.next,0,none⟩)),(3,.pointer (some ⟨h.next+10,0,none⟩)),(22,.int .i64 T.tanks),(23,.int .i64 s)])
  (fun s h1=>h1.get (h.next+10)=some (.cells (T.head++B6 (GA T s)) 187)/\h1.get h.next=some (.cells T.cells 31)/\Same h.next h h1/\h.next+11<=h1.next/\(s:Int)<=T.tanks) (fun s=>T.tanks.toNat - s) 0 ⟨rfl,rfl,rfl,rfl,trivial⟩ ⟨?_,?_,?_,?_,by omega⟩ ?_
 ·refine Eq.trans (b:=some (BQ.cells ?zz 187)) ?_ ?_
  rotate_left
  focus(((try dsimp only[BI]);(repeat(first|assumption|exact KI rfl|((with_reducible apply Oq);focus exact Ab5)|with_reducible apply HB|((with_reducible apply Nt);(focus assumption);focus exact jW)|exact KI Al|((with_reducible apply R7);(focus assumption);focus exact jW)));done))
  focus kernel_rfl
 ·(exact Aa)
 ·(exact Aq)
 ·(exact Ah)
 rintro s g h1 ⟨g1,g2,sm,hn,hs⟩ K hK
 (focus((try with_reducible apply wpC.to);(repeat'((conv=>whnf);first|refine Ak ?_|(apply Fork.mk<;>(intro _;try(exfalso;omega)))|fail));all_goals((conv=>whnf);try with_reducible apply At.mk)))
 ·apply GD
  focus exact dY (f:=0) (t:=1+s) (B:=GA T s) Al Ah T.HR Al Al rfl Al Aa
  rintro _ h2 ⟨g3,g4⟩ q2
  have g5:h2.get h.next=some (BQ.cells T.cells 31):=(g4 h.next Ah Al).trans Aa
  have hn2:=q2.next
  (refine Aj ?_)
  apply GD
  focus exact dY (f:=1+s) (t:=0) Al Ah T.HR Al Al Al rfl Aa
  rintro _ h3 ⟨g6,g7⟩ q3
  have g8:h3.get h.next=some (BQ.cells T.cells 31):=(g7 h.next Ah Al).trans Aa
  have Lj:=q3.next
  (refine Aj ?_)
  refine hK (s+1) _ _ ⟨rfl,rfl,rfl,AK rfl Al,trivial⟩ ⟨?_,Aa,Aq,Ah,by omega⟩ Al
  rw[Lp]
  exact HB g6
 ·have:s=T.tanks.toNat:=by omega
  subst this
  rw[<-SA]at g1
  refine wp_loop (fun s:Nat=>[(1,.pointer (some ⟨h.next,0,none⟩)),(3,.pointer (some ⟨h.next+10,0,none⟩)),(52,.slice T.b T.n T.c),(53,.int .i64 T.n),(54,.int .i64 s)])
   (fun s h1=>h1.get (h.next+10)=some (.cells (T.head++B6 (Kb T s)) 187)/\h1.get h.next=some (.cells T.cells 31)/\Same h.next h h1/\h.next+11<=h1.next/\s<=T.n) (fun s=>T.n - s) 0 ⟨rfl,rfl,rfl,rfl,rfl,trivial⟩ ⟨Aa,Aa,Aq,Ah,by omega⟩ ?_
  rintro s g' h1' ⟨g1,g2,sm,hn,hs⟩ K hK
  have hT0:T.Ok m h1':=hT.same Aq (Nat.le_refl _)
  obtain⟨te,ti,tr,tl⟩:=hT0
  have hfs:s<T.n->0<=(T.f s).tank/\(T.f s).tank<T.tanks/\0<=(T.f s).hull/\(T.f s).hull<T.hulls/\(T.f s).lo<=(T.f s).hi/\ -1000000<=(T.f s).lo/\(T.f s).hi<=1000000:=fun hlt=>by
   obtain⟨a,b,c⟩:=hf s hlt
   unfold TR at c
   omega
  (focus((try with_reducible apply wpC.to);(repeat'((conv=>whnf);first|refine Ak ?_|(apply Fork.mk<;>(intro _;try(exfalso;omega)))|fail));all_goals((conv=>whnf);try with_reducible apply At.mk)))
  ·have hfs:=hfs Al
   apply GD
   focus exact dY (f:=1+T.tanks.toNat+(T.f s).hull.toNat) (t:=1+(T.f s).tank.toNat) (B:=Kb T s) Al Ah T.HR Al Al Al Al Aa
   rintro _ h2 ⟨g3,g4⟩ q2
   have g5:h2.get h.next=some (BQ.cells T.cells 31):=(g4 h.next Ah Al).trans Aa
   have g9:h2.get (h1'.next+3)=some (BQ.cells (T.f s).cells 33):=(g4 (h1'.next+3) Ah Al).trans Aa
   have hn2:=q2.next
   unfold F1.cells at g9
   (refine Aj ?_)
   apply GD
   focus exact dY (f:=1+(T.f s).tank.toNat) (t:=1+T.tanks.toNat+(T.f s).hull.toNat) Al Ah T.HR Al Al Al Al Aa
   rintro _ h3 ⟨g6,g7⟩ q3
   have g8:h3.get h.next=some (BQ.cells T.cells 31):=(g7 h.next Ah Al).trans Aa
   have Lj:=q3.next
   (refine Aj ?_)
   refine hK (s+1) _ _ ⟨rfl,rfl,rfl,rfl,AK rfl Al,trivial⟩ ⟨?_,Aa,Aq,Ah,by omega⟩ Al
   rw[SB]
   exact HB g6
  ·(refine Au ?_)
   have:s=T.n:=by omega
   subst this
   rw[UM]at g1
   exact⟨_,_,rfl,by omega,Ah,Aa⟩

end AE.Tryz.Agr

/- Walks of agree: a net turned round. -/
namespace AE.Tryz.Agr
open Go AE AE.Ag AgreeS Go.Proofs
set_option maxRecDepth 100000

def partT (B:Net) (a b:Nat):Net:=fun t f=>if f<a\/(f=a/\t<b)then B f t else none
theorem aO (B:Net):partT B 0 0=empty:=by funext t f;simp[partT,empty]
theorem iU {B:Net}{N a:Nat}(hB:∀f t m,B f t=some m->f<N/\t<N):partT B a N=partT B (a+1) 0:=by
 funext t f
 simp only[partT]
 by_cases h:f=a
 ·subst h
  by_cases ht:t<N
  ·simp[ht]
  ·have:B f t=none:=by
    cases e:B f t with
    |none=>rfl
    |some m=>exact absurd (hB _ _ _ e).2 ht
   simp[this]
 ·have:(f<a\/f=a/\t<N)↔(f<a+1\/f=a+1/\t<0):=by omega
  simp only[this]
theorem iV {B:Net}{N:Nat}(hB:∀f t m,B f t=some m->f<N/\t<N):partT B N 0=turn B:=by
 funext t f
 simp only[partT,turn]
 by_cases h:f<N
 ·simp[h]
 ·have:B f t=none:=by
   cases e:B f t with
   |none=>rfl
   |some m=>exact absurd (hB _ _ _ e).1 h
  simp[this]
theorem aP (B:Net) (a b i j:Nat):partT B a (b+1) i j=if i=b/\j=a then B a b else partT B a b i j:=by
 simp only[partT]
 by_cases h:i=b/\j=a
 ·obtain⟨rfl,rfl⟩:=h;simp
 ·rw[if_neg h]
  have:(j<a\/j=a/\i<b+1)↔(j<a\/j=a/\i<b):=by omega
  simp only[this]

theorem jY (o:Option Int):∃b x,Db o=[.bool b,.int .i64 x]:=by cases o<;>exact⟨_,_,rfl⟩

set_option maxHeartbeats 1000000 in
theorem lH {h:H}{T:Tab}{r:Nat}{B:Net}{e:TypeId}(hv:T.Valid) (hr:r<h.next) (hB:∀f t m,B f t=some m->f<T.toTable.many/\t<T.toTable.many) (hg:h.get r=some (.cells (T.head++B6 B) e)):
 AW Tryz.prog 56 h.next h [.pointer (some ⟨r,0,none⟩)] (fun v h'=>∃r' e',v= .pointer (some ⟨r',0,none⟩)/\h.next<=r'/\r'<h'.next/\h'.get r'=some (.cells (T.head++B6 (turn B)) e')):=by
 obtain⟨n24,t1,t2,h1,h2,hb,hf⟩:=hv
 obtain⟨N,hN,hNi⟩:∃N,N=T.toTable.many/\(N:Int)=1+T.tanks+T.hulls:=⟨_,rfl,by simp only[Table.many,Tab.toTable];omega⟩
 rw[<-hN]at hB
 refine Afl.call rfl Al ?_
 unfold a56
 (refine Aj ?_)
 refine wp_loop (fun s:Nat=>[(0,.pointer (some ⟨r,0,none⟩)),(3,.pointer (some ⟨h.next+10,0,none⟩)),(19,.int .i64 (1+T.tanks+T.hulls)),(20,.int .i64 s)])
  (fun s h1=>h1.get (h.next+10)=some (.cells (T.head++B6 (partT B s 0)) 187)/\h1.get r=some (.cells (T.head++B6 B) e)/\h.next+11<=h1.next/\s<=N) (fun s=>N - s) 0 ⟨rfl,rfl,rfl,rfl,trivial⟩ ⟨?_,?_,Ah,by omega⟩ ?_
 ·rw[aO]
  refine Eq.trans (b:=some (BQ.cells ?zz 187)) ?_ ?_
  rotate_left
  focus(((try dsimp only[BI]);(repeat(first|assumption|exact KI rfl|((with_reducible apply Oq);focus exact Ab5)|with_reducible apply HB|((with_reducible apply Nt);(focus assumption);focus exact jW)|exact KI Al|((with_reducible apply R7);(focus assumption);focus exact jW)));done))
  focus kernel_rfl
 ·(with_reducible apply HB)
  (with_reducible apply Oq)
  focus omega
  (exact Aa)
 rintro s g h1 ⟨g1,g2,hn,hs⟩ K hK
 (focus((try with_reducible apply wpC.to);(repeat'((conv=>whnf);first|refine Ak ?_|(apply Fork.mk<;>(intro _;try(exfalso;omega)))|fail));all_goals((conv=>whnf);try with_reducible apply At.mk)))
 ·refine wp_loop (fun u:Nat=>[(0,.pointer (some ⟨r,0,none⟩)),(3,.pointer (some ⟨h.next+10,0,none⟩)),(4,.int .i64 s),(19,.int .i64 (1+T.tanks+T.hulls)),(20,.int .i64 s),(26,.int .i64 (1+T.tanks+T.hulls)),(27,.int .i64 u)])
   (fun u h1=>h1.get (h.next+10)=some (.cells (T.head++B6 (partT B s u)) 187)/\h1.get r=some (.cells (T.head++B6 B) e)/\h.next+11<=h1.next/\u<=N) (fun u=>N - u) 0 ⟨rfl,rfl,rfl,rfl,rfl,rfl,rfl,trivial⟩ ⟨Aa,Aa,Ah,by omega⟩ ?_
  rintro u g' h2 ⟨g3,g4,hn2,hu⟩ K' hK'
  obtain⟨b,x,hbx⟩:=jY (B s u)
  have hld:s<N->u<N->∀h1:H,h1.get r=some (.cells (T.head++B6 B) e)->h1.Bu ⟨r,0+6+s*26+u*2,none⟩ 2=some [.bool b,.int .i64 x]:=fun hs hu h1 h1g=>
   CP h1g (by
    have:=Qr B (f:=s) (t:=u) Al Al T.head [] (a:=0+6+s*26+u*2) (by rw[T.HR])
    rw[<-hbx]
    simpa using this)
  have hst:s<N->u<N->splice (T.head++B6 (partT B s u)) (0+6+u*26+s*2) [.bool b,.int .i64 x]=T.head++B6 (partT B s (u+1)):=fun hs hu=>by
   have:=Qq (B:=partT B s u) (B':=partT B s (u+1)) (v:=B s u) (a:=0+6+u*26+s*2) (f:=u) (t:=s) (aP B s u) Al Al T.head [] (by rw[T.HR])
   rw[hbx]at this
   simpa using this
  (focus((try with_reducible apply wpC.to);(repeat'((conv=>whnf);first|refine Ak ?_|(apply Fork.mk<;>(intro _;try(exfalso;omega)))|fail));all_goals((conv=>whnf);try with_reducible apply At.mk)))
  ·refine Mi.mk (hld Al Al _ Aa) Is.rfl ?_
   (refine Aj ?_)
   refine Xq.mk (r:=h.next+10) (off:=0+6+u*26+s*2) rfl Al Aa rfl rfl (Nat.ble_eq_true_of_le (by simp[T.HR,LK];omega)) (Nf (hst Al Al)) ?_
   (refine Aj ?_)
   refine hK' (u+1) _ _ ⟨rfl,rfl,rfl,rfl,rfl,rfl,AK rfl Al,trivial⟩ ⟨Aa,?_,Ah,by omega⟩ Al
   (exact Aa)
  ·have:u=N:=by omega
   subst this
   rw[iU hB]at g3
   refine hK (s+1) _ _ ⟨rfl,rfl,rfl,AK rfl Al,trivial⟩ ⟨Aa,Aa,Ah,by omega⟩ Al
 ·(refine Au ?_)
  have:s=N:=by omega
  subst this
  rw[iV hB]at g1
  exact⟨_,_,rfl,by omega,Ah,Aa⟩

end AE.Tryz.Agr

/- Walks of agree: the steps of a net, one after the other. -/
namespace AE.Tryz.Agr
open Go AE AE.Ag AgreeS Go.Proofs
set_option maxRecDepth 100000

theorem rJ {h:H}{r:Nat}:AW Tryz.prog 191 h.next h [.pointer (some ⟨r,0,none⟩)] (fun v h'=>∃q,v= .func (.func 282) ⟨[]⟩ ⟨[.pointer (some ⟨q,0,none⟩)]⟩/\h.next<=q/\q<h'.next/\h'.get q=some (.cells [.pointer (some ⟨r,0,none⟩)] 101)):=by
 refine zW.call rfl (Nat.le_refl _) ?_
 unfold Aif
 (refine Aj ?_)
 (refine Au ?_)
 exact⟨_,rfl,Ah,Ah,Aa⟩

theorem Pz {h:H}{r off n:Nat}{hd m:List Value}{e:TypeId}(hg:h.get r=some (.cells (hd++m) e)) (ho:hd.length=off) (hn:m.length=n):h.Bu ⟨r,off,none⟩ n=some m:=by
 refine CP hg ?_
 have:=OZ (p:=hd) (m:=m) (s:=[]) ho hn
 simpa using this

theorem Ww {P:Program}{lo Br n sz i:Nat}{ts:Ts}{h:H}{x y:BH}{cs l:List Value}(hx:ev ts x= .agg ⟨cs⟩) (hy:ev ts y= .int .i64 (i:Int)) (hi:i<n) (hc:cut cs (i*sz) sz=some l):C6 P lo Br ts h (.jn n sz x y)=some (.agg ⟨l⟩,h):=by
 simp[C6,keep,hx,hy,dB,C9,hi,hc]
theorem VQ {c vs:List Value}(h:c.length=vs.length):splice c 0 vs=vs:=by simp[splice,<-h]
theorem bC (k:Known):(CR k).all Value.oneCell'=true:=by
 unfold CR
 have:∀n,(rowsOf (fun i=>Db (k i)) n).all Value.oneCell'=true:=by
  intro n
  induction n with
  |zero=>rfl
  |succ n ih=>simp only[rowsOf,List.all_append,ih,T7,Bool.and_self]
 exact this 13
theorem uz (k:Known) {t:Nat}(ht:t<13):cut (CR k) (t*2) 2=some (Db (k t)):=by
 have:=NG k ht [] [] (a:=t*2) (by simp)
 simpa using this
theorem Abs (B:Net) {f:Nat}(hf:f<13):cut (B6 B) (f*26) 26=some (CR (B f)):=by
 have:=LJ B hf [] [] (a:=f*26) (by simp)
 simpa using this

theorem PartOf.one {P:Program}{e:TypeId}{cs:List Value}{off:Nat}{v:Value}(h1:Dc P e=some false) (h2:cs[off]? =some v):PartOf P e false cs off [v]:=⟨h1,by rw[if_neg (by simp)];exact⟨v,h2,rfl⟩⟩
theorem PartOf.agg {P:Program}{e:TypeId}{s:Nat}{cs x:List Value}{off:Nat}(h1:Dc P e=some true) (h2:sizeT P e=some s) (h3:cut cs off s=some x):PartOf P e true cs off x:=⟨h1,by rw[if_pos rfl];exact⟨s,h2,h3⟩⟩

theorem Vr (a c:Bool) (x y:Int):QF Tryz.prog 2 182 true [.bool a,.int .i64 x] [.bool c,.int .i64 y] (a==c&&(x==y&&true)):=by
 refine QF.struct (fs:=?fs) ?ht ?hs ?h
 case ht=>exact rfl
 case hs=>kernel_rfl
 refine Pj.cons (agg:=false) (x:=[.bool a]) (y:=[.bool c]) (by decide) (PartOf.one rfl rfl) (PartOf.one rfl rfl) (QF.bool rfl) ?_
 exact Pj.cons (agg:=false) (x:=[.int .i64 x]) (y:=[.int .i64 y]) (by decide) (PartOf.one rfl rfl) (PartOf.one rfl rfl) (QF.int rfl) Pj.nil
theorem cM (o:Option Int):QF Tryz.prog 2 182 true (Db o) (Db none) o.isNone:=by
 cases o with
 |none=>exact Vr false false 0 0
 |some m=>exact Vr true false m 0
theorem rV (k:Known):QF Tryz.prog 3 184 true (CR k) (CR fun _=>none) (cW (fun i=>(k i).isNone) 13):=
 QF.arr (e:=182) (m:=13) (s:=2) (agg:=true) (x:=fun i=>Db (k i)) (y:=fun _=>Db none) rfl rfl (fun i hi=>PartOf.agg rfl rfl (uz k hi)) (fun i hi=>PartOf.agg rfl rfl (uz _ hi)) fun i _=>cM (k i)
theorem kQ:CR (fun _=>none)=[.bool false,.int .i64 0,.bool false,.int .i64 0,.bool false,.int .i64 0,.bool false,.int .i64 0,.bool false,.int .i64 0,.bool false,.int .i64 0,.bool false,.int .i64 0,.bool false,.int .i64 0,.bool false,.int .i64 0,.bool false,.int .i64 0,.bool false,.int .i64 0,.bool false,.int .i64 0,.bool false,.int .i64 0]:=by kernel_rfl
theorem Vf:∀{cs:List Value},(∀v∈cs,AE.flat v=true)->DZ cs=true
 |[],_=>rfl
 |v::cs,h=>by simp only[DZ,h v (by simp),Vf fun w hw=>h w (List.mem_cons_of_mem _ hw),Bool.and_self]
theorem Zr (o:Option Int):∀v∈Db o,AE.flat v=true:=by
 cases o<;>(intro v hv;simp only[Db,List.mem_cons,List.not_mem_nil,or_false]at hv;rcases hv with rfl|rfl<;>rfl)
theorem Qs (k:Known):AE.flat (.agg ⟨CR k⟩)=true:=by
 show DZ (CR k)=true
 refine Vf fun v hv=>?_
 have:∀n,v∈rowsOf (fun i=>Db (k i)) n->AE.flat v=true:=by
  intro n
  induction n with
  |zero=>intro h;cases h
  | succ n ih=>
    intro h
    rcases List.mem_append.1 h with h|h
    ·exact ih h
    ·exact Zr (k n) v h
 unfold CR at hv
 exact this 13 hv

set_option maxHeartbeats 1000000 in
theorem cE {h:H}{lo:Nat}{yv:Value}{q r:Nat}{B:Net}{hd:List Value}{e:TypeId}(hlo:lo<=h.next) (hg:h.get q=some (.cells [.pointer (some ⟨r,0,none⟩)] 101)) (hd6:hd.length=6) (hgr:h.get r=some (.cells (hd++B6 B) e))
 (hB:∀f t m,B f t=some m-> -1000000<=m/\m<=1000000)
 (Inv:List Step->H->Prop) (hst:∀l h1 h2,Inv l h1->Quiet h1.next h1 h2->Inv l h2)
 (hy:∀l s rest h1,l++s::rest=steps B->Inv l h1->lo<=h1.next->∃v h2,(v= .bool true/\Inv (l++[s]) h2)/\CX Tryz.prog yv lo h1 [.agg ⟨[.int .i64 s.from_,.int .i64 s.to,.int .i64 s.most]⟩] v h2) (h0:Inv [] h):
 AW Tryz.prog 282 lo h [yv,.pointer (some ⟨q,0,none⟩)] (fun _ h'=>Inv (steps B) h'):=by
 refine y8.call rfl hlo ?_
 unfold Ahu
 (refine Aj ?_)
 refine Mi.mk (l:=B6 B) (Pz Aa (by simp[hd6]) (LK B)) Is.rfl ?_
 (refine Aj ?_)
 refine wp_loop (fun s:Nat=>[(0,yv),(10,.agg ⟨B6 B⟩),(11,.int .i64 s)]) (fun s h1=>Inv (pre B s 0) h1/\Quiet lo h h1/\s<=13) (fun s=>13 - s) 0 ⟨rfl,rfl,rfl,trivial⟩ ⟨?_,?_,by omega⟩ ?_
 ·exact hst _ h _ h0 ⟨by simp[AY],fun _ _=>rfl,fun hc r hr=>hc r (by simp[AY]at hr;omega)⟩
 ·(exact AO)
 rintro s g h1 ⟨hi,qu,hs⟩ K hK
 have hnx:=qu.next
 (focus((try with_reducible apply wpC.to);(repeat'((conv=>whnf);first|refine Ak ?_|(apply Fork.mk<;>(intro _;try(exfalso;omega)))|((refine kTAgreeB1 ?_);first|((first|apply Ae|apply Ac|apply Ad)<;>intro _ _ _ _<;>try contradiction)|(apply Ab;intro _ _ _))|fail));all_goals((conv=>whnf);try with_reducible apply At.mk)))
 ·have yC:s<13:=by omega
  refine DT.val (v:=.agg ⟨CR (B s)⟩) (Ww rfl rfl yC (Abs B yC)) rfl ?_
  (refine Aj ?_)
  refine Xq.mk (c':=CR (B s)) rfl Al Aa (Ea _) (bC _) rfl (Nf (VQ (by rw[Ea];rfl))) ?_
  (refine Aj ?_)
  refine Mi.mk (l:=CR (B s)) (Pz (hd:=[]) Aa rfl (Ea _)) Is.rfl ?_
  (refine Aj ?_)
  refine DT.pure (.bool (cW (fun i=>(B s i).isNone) 13)) (DU (A:=⟨CR (B s)⟩) (B:=⟨CR fun _=>none⟩) rfl rfl (by rw[kQ];rfl) (Qs _) (Qs _) (by kernel_rfl) ((rV (B s)).run 3 Op.maxDepth (by decide))) ?_
  cases hall:cW (fun i=>(B s i).isNone) 13 with
  | true=>
    (refine Aj ?_)
    have hnone:∀t,t<13->B s t=none:=fun t ht=>by
     have:=List.all_eq_true.1 hall t (List.mem_range.2 ht)
     simpa using this
    have hp:pre B (s+1) 0=pre B s 0:=by rw[Ou,d6 13 hnone]
    refine hK (s+1) _ _ ⟨rfl,rfl,AK rfl Al,trivial⟩ ⟨?_,AO,by omega⟩ Al
    rw[hp]
    exact hst _ _ _ hi AO
  | false=>
    (refine Aj ?_)
    refine Mi.mk (l:=CR (B s)) (Pz (hd:=[]) Aa rfl (Ea _)) Is.rfl ?_
    (refine Aj ?_)
    refine wp_loop (fun u:Nat=>[(0,yv),(3,.int .i64 s),(10,.agg ⟨B6 B⟩),(11,.int .i64 s),(18,.agg ⟨CR (B s)⟩),(19,.int .i64 u)]) (fun u h1=>Inv (pre B s u) h1/\Quiet lo h h1/\u<=13) (fun u=>13 - u) 0 ⟨rfl,rfl,rfl,rfl,rfl,rfl,trivial⟩ ⟨hst _ _ _ hi AO,AO,by omega⟩ ?_
    rintro u g' h2 ⟨hi',qu',hu⟩ K' hK'
    have hnx2:=qu'.next
    (focus((try with_reducible apply wpC.to);(repeat'((conv=>whnf);first|refine Ak ?_|(apply Fork.mk<;>(intro _;try(exfalso;omega)))|((refine kTAgreeB1 ?_);first|((first|apply Ae|apply Ac|apply Ad)<;>intro _ _ _ _<;>try contradiction)|(apply Ab;intro _ _ _))|fail));all_goals((conv=>whnf);try with_reducible apply At.mk)))
    ·have nV:u<13:=by omega
     cases e:B s u with
     | none=>
       refine DT.val (v:=.agg ⟨Db none⟩) (Ww rfl rfl nV (e▸uz (B s) nV)) rfl ?_
       (refine Aj ?_)
       refine hK' (u+1) _ _ ⟨rfl,rfl,rfl,rfl,rfl,AK rfl Al,trivial⟩ ⟨?_,AO,by omega⟩ Al
       rw[pre_none e]
       exact hst _ _ _ hi' AO
     | some m=>
       refine DT.val (v:=.agg ⟨Db (some m)⟩) (Ww rfl rfl nV (e▸uz (B s) nV)) rfl ?_
       obtain⟨rest,hrest⟩:=iQ yC nV e
       (refine Aj ?_)
       apply Dx
       focus exact hy (pre B s u) ⟨s,u,m⟩ rest _ hrest (hst _ _ _ hi' AO) Ah
       rintro _ h3 ⟨rfl,hi3⟩ q3
       have Aok:=q3.next
       (refine Aj ?_)
       refine hK' (u+1) _ _ ⟨rfl,rfl,rfl,rfl,rfl,AK rfl Al,trivial⟩ ⟨?_,AO,by omega⟩ Al
       rw[pre_some e]
       exact hst _ _ _ hi3 AO
    ·have:u=13:=by omega
     subst this
     rw[<-Ou]at hi'
     refine hK (s+1) _ _ ⟨rfl,rfl,AK rfl Al,trivial⟩ ⟨hst _ _ _ hi' AO,AO,by omega⟩ Al
 ·(refine Au ?_)
  have:s=13:=by omega
  subst this
  rw[eo]at hi
  exact hst _ _ _ hi AO

end AE.Tryz.Agr
