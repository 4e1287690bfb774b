/- Walks and plain laws: AgreeSpec3, AgreeCells, TAgreeA, TAgreeB, TAgreeC. -/
import Derived.Test.YtneenfjffejnoaaGreatJoin75
import Derived.Test.YtneenfjffejnoaaGreatAEthree
import Derived.Test.YtneenfjffejnoaaGreatT9Code
set_option linter.unusedVariables false
set_option linter.unusedSimpArgs false
set_option linter.unusedSectionVars false

/- The plain law of agree: the order of bounds, how great numbers become, and what the statements say of tables that are changed. -/
set_option linter.unusedVariables false
namespace AgreeS


def pre (B:Net) (f t:Nat):List Step:=((List.range f).flatMap fun f=>FB B f (List.range 13))++FB B f (List.range t)
theorem Ou (B:Net) (f:Nat):pre B (f+1) 0=pre B f 13:=by
 simp[pre,List.range_succ,FB]
theorem eo (B:Net):pre B 13 0=steps B:=by simp[pre,steps,FB]
theorem pre_some {B:Net}{f t:Nat}{m:Int}(h:B f t=some m):pre B f (t+1)=pre B f t++[⟨f,t,m⟩]:=by
 simp[pre,List.range_succ,FB,h]
theorem pre_none {B:Net}{f t:Nat}(h:B f t=none):pre B f (t+1)=pre B f t:=by
 simp[pre,List.range_succ,FB,h]
theorem d6 {B:Net}{f:Nat}:∀(t:Nat),(∀i,i<t->B f i=none)->pre B f t=pre B f 0
 |0,_=>rfl
 |t+1,h=>by rw[pre_none (h t Al),d6 t fun i hi=>h i Al]
theorem sC (B:Net) (f t:Nat):pre B f t <+: pre B f (t+1):=by
 cases h:B f t with
 |none=>rw[pre_none h];exact List.prefix_refl _
 |some m=>rw[pre_some h];exact List.prefix_append _ _
theorem Nu (B:Net) (f:Nat):∀k t,t+k=13->pre B f t <+: pre B f 13
 | 0, t, h => by obtain rfl:t=13:=by omega
                 exact List.prefix_refl _
 |k+1,t,h=>(sC B f t).trans (Nu B f k (t+1) Al)
theorem mB (B:Net):∀k f,f+k=13->pre B f 0 <+: steps B
 | 0, f, h => by obtain rfl:f=13:=by omega
                 rw[eo];exact List.prefix_refl _
 | k+1,f,h=>by
   have:=mB B k (f+1) Al
   rw[Ou]at this
   exact(Nu B f 13 0 rfl).trans this
theorem iQ {B:Net}{f t:Nat}{m:Int}(hf:f<13) (ht:t<13) (h:B f t=some m):∃rest,pre B f t++⟨f,t,m⟩::rest=steps B:=by
 have h1:=Nu B f (12 - t) (t+1) Al
 have h2:=mB B (12 - f) (f+1) Al
 rw[Ou]at h2
 obtain⟨r,hr⟩:=h1.trans h2
 rw[pre_some h]at hr
 exact⟨r,by simpa using hr⟩
theorem UA (B:Net):(steps B).length<=169:=by
 have row:∀f (l:List Nat),(FB B f l).length<=l.length:=fun f l=>by unfold FB;exact List.length_filterMap_le _ _
 have all:∀l:List Nat,(l.flatMap fun f=>FB B f (List.range 13)).length<=l.length*13:=by
  intro l
  induction l with
  |nil=>simp
  | cons f l ih=>
    have:=row f (List.range 13)
    simp only[List.flatMap_cons,List.length_append,List.length_cons,List.length_range]at*
    omega
 have:=all (List.range 13)
 simpa[steps]using this


def Small (n:Nat) (k:Known):Prop:=∀v c,k v=some c-> -(n*M)<=c/\c<=n*M
theorem Small.mono {n m:Nat}{k:Known}(h:Small n k) (hnm:n<=m):Small m k:=fun v c e=>by
 have:=h v c e
 have:(n:Int) *M<=m*M:=Int.mul_le_mul_of_nonneg_right Al (by simp[M])
 omega
theorem XK (a:Nat):Small 0 (start a).known:=fun v c h=>by
 simp only[start]at h
 split at h
 ·simp at h;subst h;simp
 ·simp at h
theorem Small.relax {N n:Nat}{B:Net}(hB:ZD N B) {x:St}{s:Step}(hs:s∈steps B) (h:Small n x.known):Small (n+1) (AgreeS.relax x s).known:=by
 obtain⟨h1,h2,h3⟩:=Iz.1 hs
 obtain⟨_,_,l1,l2⟩:=hB _ _ _ h3
 have hm:((n+1:Nat):Int) *M=n*M+M:=by rw[Int.natCast_add,Int.add_mul];omega
 unfold AgreeS.relax
 split
 ·rename_i hb
  intro v c hv
  simp only[upd]at hv
  split at hv
  ·unfold better at hb
   unfold lower at hv
   cases hf:x.known s.from_ with
   |none=>simp[hf]at hb
   | some d=>
     have:=h _ _ hf
     rw[hf]at hv
     simp at hv
     omega
  ·have:=h v c hv
   have:0<=M:=by simp[M]
   omega
 ·exact h.mono Al
theorem Small.fold {N:Nat}{B:Net}(hB:ZD N B):∀(l:List Step) (n:Nat) (x:St),(∀s∈l,s∈steps B)->Small n x.known->Small (n+l.length) (l.foldl AgreeS.relax x).known
 |[],_,_,_,h=>h
 | s::l,n,x,hl,h=>by
   have:=Small.fold hB l (n+1) _ (fun t ht=>hl t (List.mem_cons_of_mem _ ht)) (h.relax hB (hl s (by simp)))
   exact this.mono (by simp;omega)
theorem Small.pass {N n:Nat}{B:Net}(hB:ZD N B) {x:St}(h:Small n x.known):Small (n+169) (AgreeS.pass B x).known:=by
 refine(Small.fold hB (steps B) n {x with last:= -1} (fun _ h=>h) h).mono ?_
 have:=UA B
 omega
theorem Ob {N:Nat}{B:Net}(hB:ZD N B):∀(k n:Nat) (x:St),Small n x.known->Small (n+k*169) (passes B k x).known
 |0,n,_,h=>by simpa[passes]using h
 |k+1,n,x,h=>(Ob hB k (n+169) _ (h.pass hB)).mono Al


end AgreeS

/- How nets and heights lie in cells. -/
set_option linter.unusedVariables false
namespace AE.Ag
open Go AE AgreeS

def Db:Option Int->List Value
 |some m=>[.bool true,.int .i64 m]
 |none=>[.bool false,.int .i64 0]
def CR (k:Known):List Value:=rowsOf (fun i=>Db (k i)) 13
def B6 (B:Net):List Value:=rowsOf (fun f=>CR (B f)) 13

theorem Jm (o:Option Int):(Db o).length=2:=by cases o<;>rfl
theorem Ea (k:Known):(CR k).length=26:=E5 (fun _=>Jm _) 13
theorem LK (B:Net):(B6 B).length=338:=E5 (fun _=>Ea _) 13

theorem NG (k:Known) {t a:Nat}(ht:t<13) (p s:List Value) (ha:a=p.length+t*2):cut (p++CR k++s) a 2=some (Db (k t)):=
 EN (g:=fun i=>Db (k i)) (fun _=>Jm _) ht p s ha
theorem NF (k:Known) {t a:Nat}(v:Option Int) (ht:t<13) (p s:List Value) (ha:a=p.length+t*2):splice (p++CR k++s) a (Db v)=p++CR (upd k t v)++s:=by
 have:=JS (g:=fun i=>Db (k i)) (fun _=>Jm _) ht p s (Db v) (Jm _) ha
 have e:VH (fun i=>Db (k i)) t (Db v)=fun i=>Db (upd k t v i):=by
  funext i;simp only[VH,upd];split<;>rfl
 rw[e]at this
 exact this
theorem LJ (B:Net) {f a:Nat}(hf:f<13) (p s:List Value) (ha:a=p.length+f*26):cut (p++B6 B++s) a 26=some (CR (B f)):=
 EN (g:=fun f=>CR (B f)) (fun _=>Ea _) hf p s ha
theorem Qr (B:Net) {f t a:Nat}(hf:f<13) (ht:t<13) (p s:List Value) (ha:a=p.length+f*26+t*2):cut (p++B6 B++s) a 2=some (Db (B f t)):=by
 subst ha
 have h1:=LJ B hf p s rfl
 have h2:=NG (B f) ht [] [] (a:=t*2) (by simp)
 simp only[List.nil_append,List.append_nil]at h2
 exact MJ h1 h2
theorem Qq {B B':Net}{f t a:Nat}{v:Option Int}(hB:∀i j,B' i j=if i=f/\j=t then v else B i j) (hf:f<13) (ht:t<13) (p s:List Value) (ha:a=p.length+f*26+t*2):splice (p++B6 B++s) a (Db v)=p++B6 B'++s:=by
 subst ha
 have h1:=LJ B hf p s rfl
 rw[TV h1 (by rw[Jm];omega)]
 have h2:=NF (B f) v ht [] [] (a:=t*2) (by simp)
 simp only[List.nil_append,List.append_nil]at h2
 rw[h2]
 have:=JS (g:=fun f=>CR (B f)) (fun _=>Ea _) hf p s (CR (upd (B f) t v)) (Ea _) rfl
 have e:VH (fun f=>CR (B f)) f (CR (upd (B f) t v))=fun f=>CR (B' f):=by
  funext i;simp only[VH];split
  ·rename_i h;subst h
   congr 1;funext j;simp only[upd,hB];simp
  ·rename_i h
   congr 1;funext j;simp[hB,h]
 rw[e]at this
 exact this

theorem T7 (o:Option Int):(Db o).all Value.oneCell'=true:=by cases o<;>rfl

attribute [irreducible] B6 CR

end AE.Ag

/- Walks of agree: tables, small functions. -/
namespace AE.Tryz.Agr
open Go AE AE.Ag AgreeS Go.Proofs
set_option maxRecDepth 100000

structure F1 where
 tank:Int
 hull:Int
 lo:Int
 hi:Int
def F1.cells (x:F1):List Value:=[.int .i64 x.tank,.int .i64 x.hull,.int .i64 x.lo,.int .i64 x.hi]
structure Tab where
 tanks:Int
 hulls:Int
 Ue:Int
 TT:Int
 n:Nat
 f:Nat->F1
 b:Option Addr
 a:Addr
 c:Nat
def Tab.cells (T:Tab):List Value:=[.int .i64 T.tanks,.int .i64 T.hulls,.int .i64 T.Ue,.int .i64 T.TT,.slice T.b T.n T.c]
structure Tab.Ok (T:Tab) (m:Nat) (h:H):Prop where
 e:0<T.n->T.b=some T.a
 i:JP h T.a T.n 4 (fun i=>(T.f i).cells)
 r:0<T.n->T.a.block<m
 l:T.n<=9223372036854775807
theorem Tab.Ok.same {T:Tab}{m m':Nat}{h h':H}(k:T.Ok m h) (s:Same m h h') (hm:m<=m'):T.Ok m' h':=
 ⟨k.e,k.i.same s k.r,fun h=>by have:=k.r h;omega,k.l⟩


theorem Ec {g:FuncId}{first CL args xs:List Value}{lo:Nat}{h:H}{R:Value->H->Prop}(hc:AW Tryz.prog g lo h xs R) (e:first++args++CL=xs):∃v h',R v h'/\CX Tryz.prog (.func (.func g) ⟨first⟩ ⟨CL⟩) lo h args v h':=by
 obtain⟨v,h',r,a⟩:=hc
 subst e
 exact⟨v,h',r,a.Vv⟩
theorem CJ {fv:Value}{args:List Value}{lo lo':Nat}{h:H}{R:Value->H->Prop}(hc:∃v h',R v h'/\CX Tryz.prog fv lo h args v h') (hl:lo'<=lo):∃v h',R v h'/\CX Tryz.prog fv lo' h args v h':=
 let⟨v,h',r,a⟩:=hc;⟨v,h',r,a.mono hl⟩

structure G9 where
 n:Nat
 f:Nat->Int
 b:Option Addr
 a:Addr
 c:Nat
def G9.val (T:G9):Value:=.slice T.b T.n T.c
structure G9.Ok (T:G9) (m:Nat) (h:H):Prop where
 e:0<T.n->T.b=some T.a
 i:Ints h T.a T.n T.f
 r:0<T.n->T.a.block<m
 l:T.n<=9223372036854775807
theorem G9.Ok.same {T:G9}{m m':Nat}{h h':H}(k:T.Ok m h) (s:Same m h h') (hm:m<=m'):T.Ok m' h':=
 ⟨k.e,k.i.same s k.r,fun h=>by have:=k.r h;omega,k.l⟩

theorem Wz {h:H}{T:Tab}{m:Nat}(hm:m<=h.next) (hT:T.Ok m h) {pf:Value}{p:Nat->Bool}(hy:∀i h1,i<T.n->Quiet h.next h h1->∃v h2,v= .bool (p i)/\CX Tryz.prog pf h1.next h1 [.agg ⟨(T.f i).cells⟩] v h2):
 AW Tryz.prog 188 h.next h [.slice T.b T.n T.c,pf] (fun v _=>∃z,v= .int .i64 z/\(0<=z↔∃i,i<T.n/\p i=true)):=by
 obtain⟨e1,i1,r1,l1⟩:=hT
 refine zZ.call rfl (Nat.le_refl _) ?_
 unfold Aii
 (focus((try with_reducible apply wpC.to);(repeat'((conv=>whnf);first|refine Ak ?_|(apply Fork.mk<;>(intro _;try(exfalso;omega)))|fail));all_goals((conv=>whnf);try with_reducible apply At.mk)))
 refine wp_loop (fun s:Nat=>[(0,.slice T.b T.n T.c),(1,pf),(7,.int .i64 T.n),(8,.int .i64 s)]) (fun s h1=>Quiet h.next h h1/\s<=T.n/\∀i,i<s->p i=false) (fun s=>T.n - s) 0 ⟨rfl,rfl,rfl,rfl,trivial⟩ ⟨?_,by omega,fun i hi=>by omega⟩ ?_
 ·(exact AO)
 rintro s g h1 ⟨q,hs,hp⟩ K hK
 have hnx:=q.next
 (focus((try with_reducible apply wpC.to);(repeat'((conv=>whnf);first|refine Ak ?_|(apply Fork.mk<;>(intro _;try(exfalso;omega)))|fail));all_goals((conv=>whnf);try with_reducible apply At.mk)))
 ·apply Dx
  focus exact CJ (hy s _ Al AO) Ah
  rintro _ h2 rfl q2
  have hnx2:=q2.next
  cases hb:p s with
  | true=>
    (focus((try with_reducible apply wpC.to);(repeat'((conv=>whnf);first|refine Ak ?_|(apply Fork.mk<;>(intro _;try(exfalso;omega)))|fail));all_goals((conv=>whnf);try with_reducible apply At.mk)))
    (refine Au ?_)
    exact⟨_,rfl,⟨fun _=>⟨s,by omega,hb⟩,fun _=>by omega⟩⟩
  | false=>
    (focus((try with_reducible apply wpC.to);(repeat'((conv=>whnf);first|refine Ak ?_|(apply Fork.mk<;>(intro _;try(exfalso;omega)))|fail));all_goals((conv=>whnf);try with_reducible apply At.mk)))
    refine hK (s+1) _ _ ⟨rfl,rfl,rfl,AK rfl Al,trivial⟩ ⟨AO,by omega,fun i hi=>?_⟩ Al
    by_cases e:i=s
    ·subst e;exact hb
    ·exact hp i Al
 ·(refine Au ?_)
  refine⟨_,rfl,⟨fun h=>by omega,fun⟨i,hi,hpi⟩=>?_⟩⟩
  rw[hp i Al]at hpi
  cases hpi
theorem NW {h:H}{T:Tab}{m:Nat}(hm:m<=h.next) (hT:T.Ok m h) {pf:Value}{p:Nat->Bool}(hy:∀i h1,i<T.n->Quiet h.next h h1->∃v h2,v= .bool (p i)/\CX Tryz.prog pf h1.next h1 [.agg ⟨(T.f i).cells⟩] v h2):
 AW Tryz.prog 98 h.next h [.slice T.b T.n T.c,pf] (fun v _=>v= .bool (decide (∃i,i<T.n/\p i=true))):=by
 refine Ae0.call rfl (Nat.le_refl _) ?_
 unfold a98
 (focus((try with_reducible apply wpC.to);(repeat'((conv=>whnf);first|refine Ak ?_|(apply Fork.mk<;>(intro _;try(exfalso;omega)))|fail));all_goals((conv=>whnf);try with_reducible apply At.mk)))
 apply Ar
 focus(exact Ao)
 focus(exact AQ)
 focus exact Wz (m:=m) Ah (hT.same Aq (Nat.le_refl _)) fun i h1 hi q=>hy i h1 hi (Quiet.trans AO (q.mono Ah))
 rintro _ h1 ⟨z,rfl,hz⟩ q hn
 (focus((try with_reducible apply wpC.to);(repeat'((conv=>whnf);first|refine Ak ?_|(apply Fork.mk<;>(intro _;try(exfalso;omega)))|fail));all_goals((conv=>whnf);try with_reducible apply At.mk)))
 all_goals(refine Au ?_)
 ·exact CI rfl (hz.1 Al)
 ·exact Ch rfl (fun h=>by have:=hz.2 h;omega)

theorem WB {h:H}{T:G9}{m:Nat}(hm:m<=h.next) (hT:T.Ok m h) {pf:Value}{p:Nat->Bool}(hy:∀i h1,i<T.n->Quiet h.next h h1->∃v h2,v= .bool (p i)/\CX Tryz.prog pf h1.next h1 [.int .i64 (T.f i)] v h2):
 AW Tryz.prog 205 h.next h [.slice T.b T.n T.c,pf] (fun v _=>∃z,v= .int .i64 z/\(0<=z↔∃i,i<T.n/\p i=true)):=by
 obtain⟨e1,i1,r1,l1⟩:=hT
 refine bT.call rfl (Nat.le_refl _) ?_
 unfold uX
 (focus((try with_reducible apply wpC.to);(repeat'((conv=>whnf);first|refine Ak ?_|(apply Fork.mk<;>(intro _;try(exfalso;omega)))|fail));all_goals((conv=>whnf);try with_reducible apply At.mk)))
 refine wp_loop (fun s:Nat=>[(0,.slice T.b T.n T.c),(1,pf),(7,.int .i64 T.n),(8,.int .i64 s)]) (fun s h1=>Quiet h.next h h1/\s<=T.n/\∀i,i<s->p i=false) (fun s=>T.n - s) 0 ⟨rfl,rfl,rfl,rfl,trivial⟩ ⟨?_,by omega,fun i hi=>by omega⟩ ?_
 ·(exact AO)
 rintro s g h1 ⟨q,hs,hp⟩ K hK
 have hnx:=q.next
 (focus((try with_reducible apply wpC.to);(repeat'((conv=>whnf);first|refine Ak ?_|(apply Fork.mk<;>(intro _;try(exfalso;omega)))|fail));all_goals((conv=>whnf);try with_reducible apply At.mk)))
 ·apply Dx
  focus exact CJ (hy s _ Al AO) Ah
  rintro _ h2 rfl q2
  have hnx2:=q2.next
  cases hb:p s with
  | true=>
    (focus((try with_reducible apply wpC.to);(repeat'((conv=>whnf);first|refine Ak ?_|(apply Fork.mk<;>(intro _;try(exfalso;omega)))|fail));all_goals((conv=>whnf);try with_reducible apply At.mk)))
    (refine Au ?_)
    exact⟨_,rfl,⟨fun _=>⟨s,by omega,hb⟩,fun _=>by omega⟩⟩
  | false=>
    (focus((try with_reducible apply wpC.to);(repeat'((conv=>whnf);first|refine Ak ?_|(apply Fork.mk<;>(intro _;try(exfalso;omega)))|fail));all_goals((conv=>whnf);try with_reducible apply At.mk)))
    refine hK (s+1) _ _ ⟨rfl,rfl,rfl,AK rfl Al,trivial⟩ ⟨AO,by omega,fun i hi=>?_⟩ Al
    by_cases e:i=s
    ·subst e;exact hb
    ·exact hp i Al
 ·(refine Au ?_)
  refine⟨_,rfl,⟨fun h=>by omega,fun⟨i,hi,hpi⟩=>?_⟩⟩
  rw[hp i Al]at hpi
  cases hpi
theorem cV {h:H}{T:G9}{m:Nat}(hm:m<=h.next) (hT:T.Ok m h) {pf:Value}{p:Nat->Bool}(hy:∀i h1,i<T.n->Quiet h.next h h1->∃v h2,v= .bool (p i)/\CX Tryz.prog pf h1.next h1 [.int .i64 (T.f i)] v h2):
 AW Tryz.prog 118 h.next h [.slice T.b T.n T.c,pf] (fun v _=>v= .bool (decide (∃i,i<T.n/\p i=true))):=by
 refine bU.call rfl (Nat.le_refl _) ?_
 unfold uY
 (focus((try with_reducible apply wpC.to);(repeat'((conv=>whnf);first|refine Ak ?_|(apply Fork.mk<;>(intro _;try(exfalso;omega)))|fail));all_goals((conv=>whnf);try with_reducible apply At.mk)))
 apply Ar
 focus(exact Ao)
 focus(exact AQ)
 focus exact WB (m:=m) Ah (hT.same Aq (Nat.le_refl _)) fun i h1 hi q=>hy i h1 hi (Quiet.trans AO (q.mono Ah))
 rintro _ h1 ⟨z,rfl,hz⟩ q hn
 (focus((try with_reducible apply wpC.to);(repeat'((conv=>whnf);first|refine Ak ?_|(apply Fork.mk<;>(intro _;try(exfalso;omega)))|fail));all_goals((conv=>whnf);try with_reducible apply At.mk)))
 all_goals(refine Au ?_)
 ·exact CI rfl (hz.1 Al)
 ·exact Ch rfl (fun h=>by have:=hz.2 h;omega)


theorem j0 {h:H}{r:Nat}{n most:Int}{e:TypeId}(hg:h.get r=some (.cells [.int .i64 most] e)) (h0:0<=most) (h1:most<=4611686018427387904):AW Tryz.prog 145 h.next h [.int .i64 n,.pointer (some ⟨r,0,none⟩)] (fun v _=>v= .bool (decide (n< -most\/most<n))):=by
 refine z4.call rfl (Nat.le_refl _) ?_
 unfold a145
 (focus((try with_reducible apply wpC.to);(repeat'((conv=>whnf);first|refine Ak ?_|(apply Fork.mk<;>(intro _;try(exfalso;omega)))|fail));all_goals((conv=>whnf);try with_reducible apply At.mk)))
 all_goals((refine Au ?_);first|exact CI rfl Al|exact Ch rfl Al)

theorem Pp {h:H}{T:G9}{m:Nat}{most:Int}(hm:m<=h.next) (hT:T.Ok m h) (h0:0<=most) (h1:most<=4611686018427387904):
 AW Tryz.prog 74 h.next h [.int .i64 most,.slice T.b T.n T.c] (fun v _=>v= .bool (decide (∀i,i<T.n-> -most<=T.f i/\T.f i<=most))):=by
 refine Ae5.call rfl (Nat.le_refl _) ?_
 unfold a74
 (focus((try with_reducible apply wpC.to);(repeat'((conv=>whnf);first|refine Ak ?_|fail));all_goals((conv=>whnf);try with_reducible apply At.mk)))
 apply Fp
 focus(exact Ao)
 focus(exact AQ)
 focus
  refine cV (m:=m) (p:=fun i=>decide (T.f i< -most\/most<T.f i)) Ah (hT.same Aq (Nat.le_refl _)) fun i k1 hi q=>?_
  exact Ec (j0 (e:=2) (r:=h.next) (most:=most) ((q.same _ Ah).trans Aa) h0 h1) rfl
 ·intro hb h2 q hn
  (focus((try with_reducible apply wpC.to);(repeat'((conv=>whnf);first|refine Ak ?_|fail));all_goals((conv=>whnf);try with_reducible apply At.mk)))
  (refine Au ?_)
  refine Ch rfl fun hall=>?_
  obtain⟨i,hi,h3⟩:=of_decide_eq_true hb
  have:=hall i hi
  have:=of_decide_eq_true h3
  omega
 ·intro hb h2 q hn
  (focus((try with_reducible apply wpC.to);(repeat'((conv=>whnf);first|refine Ak ?_|fail));all_goals((conv=>whnf);try with_reducible apply At.mk)))
  (refine Au ?_)
  refine CI rfl fun i hi=>?_
  have:=of_decide_eq_false hb
  by_cases hx:T.f i< -most\/most<T.f i
  ·exact absurd ⟨i,hi,decide_eq_true hx⟩ this
  ·omega

end AE.Tryz.Agr

/- Walks of agree: valid tables. -/
namespace AE.Tryz.Agr
open Go AE AE.Ag AgreeS Go.Proofs
set_option maxRecDepth 100000

def TR (lo hi:Int):Prop:=lo<=hi/\ -1000000<=lo/\hi<=1000000
instance (lo hi:Int):Decidable (TR lo hi):=by unfold TR;infer_instance

theorem jq {h:H}{lo hi:Int}:AW Tryz.prog 97 h.next h [.agg ⟨[.int .i64 lo,.int .i64 hi]⟩] (fun v _=>v= .bool (decide (TR lo hi))):=by
 refine Ae1.call rfl (Nat.le_refl _) ?_
 unfold a97
 (focus((try with_reducible apply wpC.to);(repeat'((conv=>whnf);first|refine Ak ?_|(apply Fork.mk<;>(intro _;try(exfalso;omega)))|fail));all_goals((conv=>whnf);try with_reducible apply At.mk)))
 ·apply Fp
  focus(exact Ao)
  focus(exact AQ)
  focus
   refine Pp (T:=⟨2,fun i=>if i=0 then lo else hi,some ⟨h.next+12,0,none⟩,⟨h.next+12,0,none⟩,2⟩) (m:=h.next+13) Ah ⟨fun _=>rfl,fun i hi=>?_,fun _=>by simp only;omega,by simp⟩ Al Al
   have:i=0\/i=1:=by simp only at hi;omega
   rcases this with rfl|rfl
   ·exact Di (off:=0+0) Aa rfl
   ·exact Di (off:=0+1) Aa rfl
  ·intro hb h2 q hn
   (focus((try with_reducible apply wpC.to);(repeat'((conv=>whnf);first|refine Ak ?_|(apply Fork.mk<;>(intro _;try(exfalso;omega)))|fail));all_goals((conv=>whnf);try with_reducible apply At.mk)))
   (refine Au ?_)
   have:=of_decide_eq_true hb
   have h0:=this 0 (by simp)
   have h1: -1000000<=hi/\hi<=1000000:=this 1 (by simp)
   simp only[if_true]at h0
   exact CI rfl (by unfold TR;omega)
  ·intro hb h2 q hn
   (focus((try with_reducible apply wpC.to);(repeat'((conv=>whnf);first|refine Ak ?_|(apply Fork.mk<;>(intro _;try(exfalso;omega)))|fail));all_goals((conv=>whnf);try with_reducible apply At.mk)))
   (refine Au ?_)
   have:=of_decide_eq_false hb
   refine Ch rfl fun hr=>this fun i _=>?_
   unfold TR at hr
   simp only
   split<;>omega
 ·(refine Au ?_)
  exact Ch rfl (by unfold TR;omega)
theorem FE {G G':Prop}(g:G') (t:G'->G:=by((apply Ar);(focus exact Ao);(focus exact AQ);(focus(exact jq)))):G:=t g

theorem Amx {h:H}{a b:Int}:AW Tryz.prog 96 h.next h [.int .i64 a,.int .i64 b] (fun v _=>v= .bool (decide (0<=a/\a<b))):=by
 refine Ae2.call rfl (Nat.le_refl _) ?_
 unfold a96
 (focus((try with_reducible apply wpC.to);(repeat'((conv=>whnf);first|refine Ak ?_|(apply Fork.mk<;>(intro _;try(exfalso;omega)))|fail));all_goals((conv=>whnf);try with_reducible apply At.mk)))
 all_goals((refine Au ?_);first|exact CI rfl Al|exact Ch rfl Al)
theorem Bt {G G':Prop}(g:G') (t:G'->G:=by((apply Ar);(focus exact Ao);(focus exact AQ);(focus(exact Amx)))):G:=t g
theorem ko {h:H}{x:F1}{r s:Nat}{tanks hulls:Int}{cs:List Value}{e e':TypeId}(hr:r<h.next) (hs':s<h.next) (hg:h.get r=some (.cells [.func (.func 96) ⟨[]⟩ ⟨[]⟩] e)) (hs:h.get s=some (.cells (.int .i64 tanks:: .int .i64 hulls::cs) e')):
 AW Tryz.prog 99 h.next h [.agg ⟨x.cells⟩,.pointer (some ⟨r,0,none⟩),.pointer (some ⟨s,0,none⟩)] (fun v _=>v= .bool (decide (¬((0<=x.tank/\x.tank<tanks)/\(0<=x.hull/\x.hull<hulls))))):=by
 refine Aez.call rfl (Nat.le_refl _) ?_
 unfold a99
 (focus((try with_reducible apply wpC.to);(repeat'((conv=>whnf);first|refine Ak ?_|((refine Bt ?_);first|((first|apply Ae|apply Ac|apply Ad)<;>intro _ _ _ _<;>try contradiction)|(apply Ab;intro _ _ _))|fail));all_goals((conv=>whnf);try with_reducible apply At.mk)))
 all_goals((refine Au ?_);first|exact CI rfl Al|exact Ch rfl Al)
theorem cQ {h:H}{x:F1}:AW Tryz.prog 100 h.next h [.agg ⟨x.cells⟩] (fun v _=>v= .bool (decide (¬TR x.lo x.hi))):=by
 refine Aa9.call rfl (Nat.le_refl _) ?_
 unfold Ai9
 (focus((try with_reducible apply wpC.to);(repeat'((conv=>whnf);first|refine Ak ?_|((refine FE ?_);first|((first|apply Ae|apply Ac|apply Ad)<;>intro _ _ _ _<;>try contradiction)|(apply Ab;intro _ _ _))|fail));all_goals((conv=>whnf);try with_reducible apply At.mk)))
 all_goals(refine Au ?_)
 all_goals first|exact CI rfl (by assumption)|exact Ch rfl (by simpa using ‹TR x.lo x.hi›)

structure Tab.Valid (T:Tab):Prop where
 n:T.n<=24
 t1:1<=T.tanks
 t2:T.tanks<=6
 h1:1<=T.hulls
 h2:T.hulls<=6
 b:TR T.Ue T.TT
 f:∀i,i<T.n->(0<=(T.f i).tank/\(T.f i).tank<T.tanks)/\(0<=(T.f i).hull/\(T.f i).hull<T.hulls)/\TR (T.f i).lo (T.f i).hi

theorem Iu {h:H}{T:Tab}{m:Nat}(hm:m<=h.next) (hT:T.Ok m h) (hv:T.Valid):AW Tryz.prog 38 h.next h [.agg ⟨T.cells⟩] (fun v _=>v= .int .i64 0):=by
 obtain⟨n24,t1,t2,h1,h2,hb,hf⟩:=hv
 refine Af1.call rfl (Nat.le_refl _) ?_
 unfold a38
 (focus((try with_reducible apply wpC.to);(repeat'((conv=>whnf);first|refine Ak ?_|(apply Fork.mk<;>(intro _;try(exfalso;omega)))|((first|refine Bt ?_|refine FE ?_);first|((first|apply Ae|apply Ac|apply Ad)<;>intro _ _ _ _<;>try contradiction)|(apply Ab;intro _ _ _))|fail));all_goals((conv=>whnf);try with_reducible apply At.mk)))
 apply Fp
 focus(exact Ao)
 focus(exact AQ)
 focus
  refine NW (m:=m) (p:=fun i=>decide (¬((0<=(T.f i).tank/\(T.f i).tank<T.tanks)/\(0<=(T.f i).hull/\(T.f i).hull<T.hulls)))) Ah (hT.same Aq (Nat.le_refl _)) fun i k1 hi q=>?_
  have hq:=q.next
  exact Ec (ko (x:=T.f i) (r:=h.next+2) (s:=h.next) (e:=178) (e':=31) (tanks:=T.tanks) (hulls:=T.hulls) Ah Ah ((q.same _ Ah).trans Aa) ((q.same _ Ah).trans Aa)) rfl
 ·intro hb' h2 q hn
  exfalso
  obtain⟨i,hi,hp⟩:=of_decide_eq_true hb'
  have:=of_decide_eq_true hp
  have:=hf i hi
  omega
 intro _ h2 q hn
 (focus((try with_reducible apply wpC.to);(repeat'((conv=>whnf);first|refine Ak ?_|(apply Fork.mk<;>(intro _;try(exfalso;omega)))|((first|refine Bt ?_|refine FE ?_);first|((first|apply Ae|apply Ac|apply Ad)<;>intro _ _ _ _<;>try contradiction)|(apply Ab;intro _ _ _))|fail));all_goals((conv=>whnf);try with_reducible apply At.mk)))
 apply Fp
 focus(exact Ao)
 focus(exact AQ)
 focus
  refine NW (m:=m) (p:=fun i=>decide (¬TR (T.f i).lo (T.f i).hi)) Ah (hT.same Aq (Nat.le_refl _)) fun i k1 hi q=>?_
  exact Ec (cQ (x:=T.f i)) rfl
 ·intro hb' h2 q hn
  exfalso
  obtain⟨i,hi,hp⟩:=of_decide_eq_true hb'
  exact of_decide_eq_true hp (hf i hi).2.2
 intro _ h2 q hn
 (focus((try with_reducible apply wpC.to);(repeat'((conv=>whnf);first|refine Ak ?_|(apply Fork.mk<;>(intro _;try(exfalso;omega)))|((first|refine Bt ?_|refine FE ?_);first|((first|apply Ae|apply Ac|apply Ad)<;>intro _ _ _ _<;>try contradiction)|(apply Ab;intro _ _ _))|fail));all_goals((conv=>whnf);try with_reducible apply At.mk)))
 (refine Au ?_)
 rfl

end AE.Tryz.Agr

/- Walks of agree: nets. -/
namespace AE.Tryz.Agr
open Go AE AE.Ag AgreeS Go.Proofs
set_option maxRecDepth 100000

theorem Adm {h:H}{r:Nat}{x:Int}{b:Bool}{e:TypeId}(hr:r<h.next) (hg:h.get r=some (.cells [.bool b,.int .i64 x] e)):AW Tryz.prog 190 h.next h [.pointer (some ⟨r,0,none⟩)] (fun v _=>v= .tuple #[.int .i64 x,.bool b]):=by
 refine zX.call rfl (Nat.le_refl _) ?_
 unfold Aig
 (focus((try with_reducible apply wpC.to);(repeat'((conv=>whnf);first|refine Ak ?_|fail));all_goals((conv=>whnf);try with_reducible apply At.mk)))
 all_goals(refine Au ?_)
 all_goals rfl
theorem mZ {h:H}{a x:Int}{b:Bool}{fv:Value}(hy:∀h1,Quiet h.next h h1->∃v h2,v= .tuple #[.int .i64 x,.bool b]/\CX Tryz.prog fv h1.next h1 [] v h2):AW Tryz.prog 189 h.next h [.int .i64 a,fv] (fun v _=>v= .int .i64 (if b then min a x else a)):=by
 refine zY.call rfl (Nat.le_refl _) ?_
 unfold Aih
 (focus((try with_reducible apply wpC.to);(repeat'((conv=>whnf);first|refine Ak ?_|((refine Bt ?_);first|((first|apply Ae|apply Ac|apply Ad)<;>intro _ _ _ _<;>try contradiction)|(apply Ab;intro _ _ _))|fail));all_goals((conv=>whnf);try with_reducible apply At.mk)))
 apply Dx
 focus exact CJ (hy _ AO) Ah
 rintro _ h2 rfl q
 cases b with
 | true=>
   (focus((try with_reducible apply wpC.to);(repeat'((conv=>whnf);first|refine Ak ?_|((refine Bt ?_);first|((first|apply Ae|apply Ac|apply Ad)<;>intro _ _ _ _<;>try contradiction)|(apply Ab;intro _ _ _))|fail));all_goals((conv=>whnf);try with_reducible apply At.mk)))
   all_goals(refine Au ?_)
   all_goals exact AK rfl (by first|(simp only[if_true];done)|(simp only[if_true];omega))
 | false=>
   (focus((try with_reducible apply wpC.to);(repeat'((conv=>whnf);first|refine Ak ?_|((refine Bt ?_);first|((first|apply Ae|apply Ac|apply Ad)<;>intro _ _ _ _<;>try contradiction)|(apply Ab;intro _ _ _))|fail));all_goals((conv=>whnf);try with_reducible apply At.mk)))
   (refine Au ?_)
   exact AK rfl (by simp)

theorem Nf {l m:List Value}(h:l=m):Is l m:=h▸Is.rfl

theorem Adg {h:H}{lo r f t:Nat}{m:Int}{hd:List Value}{B:Net}{e:TypeId}(hlo:lo<=r) (hr:r<h.next) (hd6:hd.length=6) (hf:f<13) (ht:t<13) (hg:h.get r=some (.cells (hd++B6 B) e)):
 AW Tryz.prog 101 lo h [.pointer (some ⟨r,0,none⟩),.int .i64 f,.int .i64 t,.int .i64 m] (fun _ h'=>h'.get r=some (.cells (hd++B6 (AgreeS.put B f t m)) e)/\∀s,s<h.next->s≠r->h'.get s=h.get s):=by
 refine Aa8.call rfl Al ?_
 unfold Ai8
 obtain⟨b,x,hbx,hmin⟩:∃b x,Db (B f t)=[.bool b,.int .i64 x]/\AgreeS.put B f t m f t=some (if b then min m x else m):=by
  cases hb:B f t with
  |none=>exact⟨false,0,rfl,by simp[AgreeS.put,hb]⟩
  |some o=>exact⟨true,o,rfl,by simp[AgreeS.put,hb]⟩
 have hld:∀h1:H,h1.get r=some (.cells (hd++B6 B) e)->h1.Bu ⟨r,0+6+f*26+t*2,none⟩ 2=some [.bool b,.int .i64 x]:=fun h1 h1g=>
  CP h1g (by
   have:=Qr B hf ht hd [] (a:=0+6+f*26+t*2) Al
   rw[<-hbx]
   simpa using this)
 have hst:splice (hd++B6 B) (0+6+f*26+t*2) [.bool true,.int .i64 (if b then min m x else m)]=hd++B6 (AgreeS.put B f t m):=by
  have:=Qq (B:=B) (B':=AgreeS.put B f t m) (v:=some (if b then min m x else m)) (a:=0+6+f*26+t*2) (fun i j=>by
   by_cases hij:i=f/\j=t
   ·obtain⟨rfl,rfl⟩:=hij;rw[hmin];simp
   ·simp[AgreeS.put,hij]) hf ht hd [] Al
  simpa[Db]using this
 (focus((try with_reducible apply wpC.to);(repeat'((conv=>whnf);first|refine Ak ?_|fail));all_goals((conv=>whnf);try with_reducible apply At.mk)))
 refine Mi.mk (hld _ Aa) Is.rfl ?_
 (focus((try with_reducible apply wpC.to);(repeat'((conv=>whnf);first|refine Ak ?_|fail));all_goals((conv=>whnf);try with_reducible apply At.mk)))
 apply Dw
 focus(exact Ao)
 focus(exact AQ)
 focus exact mZ (b:=b) (x:=x) fun h1 q=>Ec (Adm (e:=182) (r:=h.next+8) (by have:=q.next;(exact Ah)) ((q.same _ Ah).trans Aa)) rfl
 intro h2 q hn
 (focus((try with_reducible apply wpC.to);(repeat'((conv=>whnf);first|refine Ak ?_|fail));all_goals((conv=>whnf);try with_reducible apply At.mk)))
 refine Xq.mk (r:=r) (off:=0+6+f*26+t*2) rfl hlo Aa rfl rfl (Nat.ble_eq_true_of_le (by simp[hd6,LK];omega)) (Nf hst) ?_
 (focus((try with_reducible apply wpC.to);(repeat'((conv=>whnf);first|refine Ak ?_|fail));all_goals((conv=>whnf);try with_reducible apply At.mk)))
 (refine Au ?_)
 refine⟨Aa,fun s hs hne=>?_⟩
 generalize hx:h.get s=y
 (exact Aa)

end AE.Tryz.Agr
