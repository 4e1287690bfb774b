/- The evaluator and its laws: AEDemon2, AEDemon3, AESym, AEWp, AEBy, AELaw, AEOps, AEEq, AEEq2, AECells, AEGrow, AEGat, AEGx, AESlc, AEMapInt, AEMapE, AEExt, AEExt2, AEBelow, AEStr, AEStrN, AEBy2, AEStr2, AESlG, AESl3, AEMapG, AEDXa, AEMeth, AEArg, AEArg2. No program in sight. -/
import Derived.Test.YtbgiemgoafjohaaGreatDoorAEtwo
import Derived.ProofKit
import Derived.Below
import GoSem.Extern.Table
import Derived.Lib.Strings
import Derived.Laws.RangeAny
import Derived.OpenShut
import Derived.ShutString
import Derived.ChangeOld
import Derived.Carry
set_option linter.unusedVariables false
set_option linter.unusedSimpArgs false
set_option linter.unusedSectionVars false

/- A call whose walk may come to many ends, which are alike in what is kept. -/
namespace AE
open Go Go.RowKit

def Kept (N:Nat) (h:H) (r:Nat) (row:A9):Prop:=
 row= .gone\/(r<h.next/\h.get r=some row)\/∀(J:Al) (w:World),Bw J r w row->Bw (J.below N) r w row
theorem BR.ak {I J:Al}{lo N:Nat}{h h' h1:H}{w w':World}(k:Rel I h w) (a:BR I J lo h.next h' w w') (hN:h.next<=N) (hN1:N<=h1.next) (hc:∀r,h1.next<=r->h1.get r=none)
 (hk:∀r row,r<N->h1.get r=some row->Kept N h r row) (hs:∀r row,r<N->h1.get r=some row->row= .gone\/h'.get r=some row):BR I (J.below N) lo h.next h1 w w':=by
 have hI:Le I (J.below N):=a.grows.le.below fun r d=>Nat.lt_of_lt_of_le (k.lt r d) hN
 refine⟨⟨hI,fun r s b d e=>a.grows.new r s b d (Al.AU e).2⟩,fun r ⟨s,p,e⟩=>a.dom r ⟨s,p,(Al.AU e).2⟩,fun r s p hr e=>a.old r s p hr (Al.AU e).2,?_,a.ext⟩
 refine⟨fun r row hr ⟨s,p,e⟩=>?_,fun r ⟨s,p,e⟩=>Nat.lt_of_lt_of_le (Al.AU e).1 hN1,fun r s b d e=>a.rel.size r s b d (Al.AU e).2,a.rel.base,a.rel.tabs,fun r r' s s' b d d' e e' hb=>a.rel.inj r r' s s' b d d' (Al.AU e).2 (Al.AU e').2 hb,hc⟩
 obtain⟨hlt,e⟩:=Al.AU e
 rcases hs r row hlt hr with rfl|uU
 ·trivial
 have kJ:=a.rel.rows r row uU ⟨s,p,e⟩
 rcases hk r row hlt hr with rfl|⟨hlt',h0⟩|hrow
 ·trivial
 ·have hd:I.dom r:=(a.dom r ⟨s,p,e⟩).resolve_right (by omega)
  exact(k.rows r row h0 hd).below hI hlt kJ
 ·exact hrow J w' kJ

theorem S4 {P:Program}{f:FuncId}{fn:Func}{c:Code}{n nargs lo N:Nat}{rs:List ResultVar}{h h1:H}{args:List Value}{v:Value}(hf:P.funcs[f]? =some fn) (hb:fn.body=some c) (hn:fn.ntmps=n) (hna:nargs<=n) (hrs:fn.results=⟨rs⟩) (hname:(fn.name== "runtime.NumGoroutine")=false)
 (ha:args.length=nargs) (hin:∀J:Al,In J v->In (J.below N) v) (hN:h.next<=N) (hN1:N<=h1.next) (hq:Quiet lo h h1) (hk:∀r row,r<N->h1.get r=some row->Kept N h r row)
 (hw:WD (TC true P c) n lo (fun e ts h'=>(e= .normal\/e= .ret)/\E1 P h' ts rs=some v/\∀r row,r<N->h1.get r=some row->row= .gone\/h'.get r=some row) (FG args) h):AF P f lo h args v h1:=by
 refine⟨hq,fun as_ w=>?_,fun I w k ia=>?_⟩
 ·have hne:¬fn.name= "runtime.NumGoroutine" :=by simpa using hname
  simp[callFunc,hf,hne,hb,program,Sem.run]
 ·refine callsIn_wide.1 (callsIn_of_wp_marks (F:=Fence.wide) (n:=0) hf hb trivial ?_)
  have ht:Bv I n (FG args) ((⟨Ah I args⟩:Array Value)++Array.replicate (fn.ntmps - (⟨Ah I args⟩:Array Value).size) undef):=by
   refine⟨by simp;omega,fun i=>?_⟩
   rw[Array.getD_eq_getD_getElem?,Array.getElem?_append]
   by_cases hi:i<args.length
   ·simp only[List.size_toArray,Bp,hi,if_true,List.getElem?_toArray,BO,FG,List.getElem?_eq_getElem hi,Option.map_some,Option.getD_some]
    exact⟨trivial,Eb ia (List.getElem?_eq_getElem hi)⟩
   ·simp only[List.size_toArray,Bp,hi,if_false,FG,List.getElem?_eq_none (Nat.le_of_not_lt hi),Option.getD_none]
    refine⟨?_,(BV I).2⟩
    rw[(BV I).1,Array.getElem?_replicate]
    split<;>rfl
  have:=hw none I w ⟨_,[]⟩ k ht (fun _=>rfl)
  refine Go.wpIn_mono this ?_
  rintro e' a' w' ⟨ts',h',J,⟨he,hv,hs⟩,hq',AV,t',ms,hd,hms⟩
  simp only[List.append_nil]at hd
  have hleave:LeavesInM Fence.wide 0 P fn a'.tmps (fun e w'=>∃J,BR I J lo h.next h1 w w'/\In J v/\e= .returned (ren J v)) ms .returning w':=by
   refine EF (I:=I) (J:=J) (h':=h') (lo:=lo) (fun w2 k2 e2=>?_) ms w' AV.rel AV.ext hms
   obtain⟨iv,hrun⟩:=Fq (P:=P) hrs t' k2 hv
   have W:BR I J lo h.next h' w w2:=⟨AV.grows,AV.dom,AV.old,k2,e2⟩
   exact⟨_,hrun,J.below N,W.ak k hN hN1 (hq.clean k.clean) hk hs,hin J iv,by rw[<-((J.below_le N).ren v (hin J iv)).1]⟩
  rcases he with rfl|rfl
  ·simp only[bodyPostM,hd];exact hleave
  ·simp only[bodyPostM,hd];exact hleave

theorem Tl.eu {P:Program}{n:Nat}{f:FuncId}{nargs:Nat}{A:Aj}{rs:List ResultVar}(F:Tl P f n nargs A rs) {lo N:Nat}{h h1:H}{args:List Value}{v:Value}{R:Value->H->Prop}(ha:args.length=nargs) (hlo:lo<=h.next) (hin:∀J:Al,In J v->In (J.below N) v)
 (hN:h.next<=N) (hN1:N<=h1.next) (hq:Quiet lo h h1) (hk:∀r row,r<N->h1.get r=some row->Kept N h r row) (hR:R v h1)
 (hw:DV P lo A (fun e ts h'=>(e= .normal\/e= .ret)/\E1 P h' ts rs=some v/\∀r row,r<N->h1.get r=some row->row= .gone\/h'.get r=some row) (FG args) h):AW P f lo h args R:=by
 obtain⟨fn,c,hf,hb,hn,hna,hrs,hcc,hname⟩:=F.ex
 exact⟨v,h1,hR,S4 hf hb hn hna hrs hname ha hin hN hN1 hq hk (X7 F.mixed c true A _ _ _ hcc hlo hw)⟩
end AE

/- A call whose walk may come to many ends, which hand back one new row, wherever it lies. -/
namespace AE
open Go Go.RowKit
def Al.mv (J:Al) (n rs:Nat):Al:=⟨fun r s=>if r<n then J.at_ r s else if r=n then J.at_ rs s else none,fun r g=>if r=n then J.cap rs g else J.cap r g,J.base⟩
theorem Al.IG {J:Al}{n rs r:Nat}{s:Option Nat}(h:r<n):(J.mv n rs).at_ r s=J.at_ r s:=if_pos h
theorem Al.Nz {J:Al}{n rs:Nat}{s:Option Nat}:(J.mv n rs).at_ n s=J.at_ rs s:=by
 show(if n<n then _ else if n=n then _ else _)=_
 rw[if_neg (Nat.lt_irrefl n),if_pos rfl]
theorem Al.Gv {J:Al}{n rs r:Nat}{s:Option Nat}{p:Nat × Nat}(h:(J.mv n rs).at_ r s=some p):(r<n/\J.at_ r s=some p)\/(r=n/\J.at_ rs s=some p):=by
 replace h:(if r<n then J.at_ r s else if r=n then J.at_ rs s else none)=some p:=h
 by_cases h1:r<n
 ·rw[if_pos h1]at h;exact .inl ⟨h1,h⟩
 ·rw[if_neg h1]at h
  by_cases h2:r=n
  ·rw[if_pos h2]at h;exact .inr ⟨h2,h⟩
  ·rw[if_neg h2]at h;exact absurd h (by simp)
theorem Le.mv {I J:Al}{n rs:Nat}(h:Le I J) (hn:∀r,I.dom r->r<n):Le I (J.mv n rs):=
 ⟨fun r s p e=>by rw[Al.IG (hn r ⟨s,p,e⟩)];exact h.at_ r s p e,fun r g p e=>by
  have hr:=hn r ⟨_,p,e⟩
  show(if r=n then _ else _)=_
  rw[if_neg (by omega)];exact h.cap r g p e,h.base⟩
theorem Bw.mv {I J:Al}{n rs r:Nat}{w w':World}{row:A9}(hI:Le I (J.mv n rs)) (qL:Le I J) (hr:r<n) (k:Bw I r w row) (k':Bw J r w' row):Bw (J.mv n rs) r w' row:=by
 have ih:∀v,In I v->ren (J.mv n rs) v=ren J v:=fun v i=>by rw[(hI.ren v i).1,(qL.ren v i).1]
 have rO:∀vs,BH I vs->Ah (J.mv n rs) vs=Ah J vs:=fun v i=>by rw[(hI.Ah v i).1,(qL.Ah v i).1]
 cases row with
 | cells c e=>
   obtain⟨b,e1,e2,e3⟩:=k'.2
   exact⟨(hI.Ah c k.1).2,b,(Al.IG hr).trans e1,e2,by rw[e3,rO c k.1]⟩
 | ro c=>
   obtain⟨b,d,e1,e2⟩:=k'.2
   exact⟨(hI.Ah c k.1).2,b,d,(Al.IG hr).trans e1,fun j v hj=>by rw[e2 j v hj,ih v (Eb k.1 hj)]⟩
 | grow c e sz lens valid=>
   obtain⟨-,h1,h2,hgen,hof,h3⟩:=k'
   refine⟨(hI.Ah c k.1).2,h1,h2,fun g p e=>?_,fun g g' b d d' v v' e e'=>?_,fun g hg hl=>?_⟩
   ·rw[Al.IG hr]at e;exact hgen g p e
   ·rw[Al.IG hr]at e e';exact hof g g' b d d' v v' e e'
   ·obtain⟨b,d,C,e1,e2,e3,e4,e5,e6⟩:=h3 g hg hl
    refine⟨b,d,C,(Al.IG hr).trans e1,e2,e3,e4,?_,by rw[rO c k.1];exact e6⟩
    show C.size=d+(if r=n then _ else _) *sz
    rw[if_neg (by omega)];exact e5
 | map es clock=>
   obtain⟨b,e1,e2,e3⟩:=k'.2
   refine⟨fun e he=>⟨(hI.ren _ (k.1 e he).1).2,(hI.ren _ (k.1 e he).2).2⟩,b,(Al.IG hr).trans e1,e2,?_⟩
   rw[e3]
   congr 3
   exact List.map_congr_left fun e he=>by unfold B0;rw[ih _ (k.1 e he).1,ih _ (k.1 e he).2]
 | iter m since seen c0=>
   obtain⟨b,bm,e1,e2,e3,e4⟩:=k'
   obtain⟨b0,vt,f1,f2,f3,f4⟩:=k
   have h3:=qL.at_ _ _ _ f3
   rw[e3]at h3;simp at h3;subst h3
   exact⟨b,bm,(Al.IG hr).trans e1,e2,hI.at_ _ _ _ f3,e4⟩
 | Ki s p=>
   obtain⟨b,e1,e2,e3⟩:=k'
   exact⟨b,(Al.IG hr).trans e1,e2,e3⟩
 | loop l=>
   obtain⟨-,tm, -, -, -, -,t0, -⟩:=k
   obtain⟨b,tmps,db,fn,e1,e2,e3,e5⟩:=k'
   refine⟨b,tmps,db,fn,(Al.IG hr).trans e1,e2,⟨e3.1,fun i=>?_⟩,e5⟩
   exact⟨by rw[(e3.2 i).1,ih _ (t0.2 i).2],(hI.ren _ (t0.2 i).2).2⟩
 | defers=>
   obtain⟨b,e1,e2,e3⟩:=k'
   exact⟨b,(Al.IG hr).trans e1,e2,e3⟩
 |gone=>trivial
theorem cK {J:Al}{n rs sz valid:Nat}{w:World}{c:List Value}{e:TypeId}{lens:List Nat}(hc:∀v∈c,∀I:Al,In I v/\ren I v=v) (k:Bw J rs w (.grow c e sz lens valid)):Bw (J.mv n rs) n w (.grow c e sz lens valid):=by
 obtain⟨-,h1,h2,hgen,hof,h3⟩:=k
 have rl:∀I:Al,∀l:List Value,(∀v∈l,∀I:Al,In I v/\ren I v=v)->BH I l/\Ah I l=l:=fun I l=>by
  induction l with
  |nil=>intro _;simp[BH,Ah]
  | cons x l ih=>
    intro h
    have a:=h x (by simp) I
    have b:=ih fun v hv=>h v (by simp[hv])
    simp only[BH,Ah]
    exact⟨⟨a.1,b.1⟩,by rw[a.2,b.2]⟩
 refine⟨(rl _ c hc).1,h1,h2,fun g p e=>?_,fun g g' b d d' v v' e e'=>?_,fun g hg hl=>?_⟩
 ·rw[Al.Nz]at e;exact hgen g p e
 ·rw[Al.Nz]at e e';exact hof g g' b d d' v v' e e'
 ·obtain⟨b,d,C,e1,e2,e3,e4,e5,e6⟩:=h3 g hg hl
  refine⟨b,d,C,Al.Nz.trans e1,e2,e3,e4,?_,by rw[(rl _ c hc).2];rw[(rl J c hc).2]at e6;exact e6⟩
  show C.size=d+(if n=n then _ else _) *sz
  rw[if_pos rfl];exact e5
theorem BR.mv {I J:Al}{lo rs:Nat}{h h' h1:H}{w w':World}(k:Rel I h w) (a:BR I J lo h.next h' w w') (hlo:lo<=h.next) (hrs:h.next<=rs) (hN1:h.next<h1.next) (hc:∀r,h1.next<=r->h1.get r=none)
 (hold:∀r row,r<h.next->h1.get r=some row->row= .gone\/(h.get r=some row/\h'.get r=some row)) (hnew:∀row,h1.get h.next=some row->(J.mv h.next rs).dom h.next->Bw (J.mv h.next rs) h.next w' row):BR I (J.mv h.next rs) lo h.next h1 w w':=by
 have hI:Le I (J.mv h.next rs):=a.grows.le.mv k.lt
 have hno:∀s p,I.at_ rs s≠some p:=fun s p e=>by have:=k.lt rs ⟨s,p,e⟩;omega
 refine⟨⟨hI,fun r s b d e=>?_⟩,fun r ⟨s,p,e⟩=>?_,fun r s p hr e=>?_,?_,a.ext⟩
 ·rcases Al.Gv e with⟨h1,e⟩|⟨h1,e⟩
  ·exact a.grows.new r s b d e
  ·rcases a.grows.new rs s b d e with e|e|⟨s',d',e⟩
   ·exact absurd e (hno _ _)
   ·exact .inr (.inl e)
   ·exact absurd e (hno _ _)
 ·rcases Al.Gv e with⟨h1,e⟩|⟨h1,e⟩
  ·exact a.dom r ⟨s,p,e⟩
  ·exact .inr (by omega)
 ·rcases Al.Gv e with⟨h1,e⟩|⟨h1,e⟩
  ·exact a.old r s p hr e
  ·omega
 ·refine⟨fun r row hr hd=>?_,fun r ⟨s,p,e⟩=>?_,fun r s b d e=>?_,a.rel.base,a.rel.tabs,fun r r' s s' b d d' e e' hb=>?_,hc⟩
  ·obtain⟨s,p,e⟩:=hd
   rcases Al.Gv e with⟨h2,e⟩|⟨h2,e⟩
   ·rcases hold r row h2 hr with rfl|⟨h3,h4⟩
    ·trivial
    ·have uQ:I.dom r:=(a.dom r ⟨s,p,e⟩).resolve_right (by omega)
     exact(k.rows r row h3 uQ).mv hI a.grows.le h2 (a.rel.rows r row h4 ⟨s,p,e⟩)
   ·subst h2
    exact hnew row hr ⟨s,p,by first|assumption|(rw[Al.Nz];assumption)⟩
  ·rcases Al.Gv e with⟨h2, -⟩|⟨h2, -⟩<;>omega
  ·rcases Al.Gv e with⟨-,e⟩|⟨-,e⟩<;>exact a.rel.size _ s b d e
  ·rcases Al.Gv e with⟨h2,e⟩|⟨h2,e⟩<;>rcases Al.Gv e' with⟨h3,e'⟩|⟨h3,e'⟩
   ·exact a.rel.inj r r' s s' b d d' e e' hb
   ·have:=a.rel.inj r rs s s' b d d' e e' hb;omega
   ·have:=a.rel.inj rs r' s s' b d d' e e' hb;omega
   ·omega

end AE

/- Walking compiled code step by step: lemmas, one a kind of step. -/
namespace AE
open Go


noncomputable def Mr (ts:Ts) (d:Nat) (v:Value):Ts:=fun j=>Bool.rec (motive:=fun _=>Value) (ts j) v (Nat.beq j d)
theorem FI (ts:Ts) (d:Nat) (v:Value):Mr ts d v=GL ts d v:=by
 funext j
 unfold Mr GL
 by_cases h:j=d
 ·subst h;simp[Nat.beq_refl]
 ·rw[if_neg h]
  have:Nat.beq j d=false:=by
   cases e:Nat.beq j d
   ·rfl
   ·exact absurd (Nat.eq_of_beq_eq_true e) h
  rw[this]
noncomputable def eC (ts:Ts) (v:Value):Option Nat->Ts
 |some d=>Mr ts d v
 |none=>ts
theorem ay (ts:Ts) (v:Value) (d:Option Nat):eC ts v d=EY ts v d:=by cases d<;>simp[eC,EY,FI]

noncomputable def look (g:Ts):List (Nat × Value)->Ts
 |[]=>g
 |p::l=>fun j=>Bool.rec (motive:=fun _=>Value) (look g l j) p.2 (Nat.beq j p.1)
def Holds (ts:Ts):List (Nat × Value)->Prop
 |[]=>True
 |p::l=>ts p.1=p.2/\Holds ts l
theorem Jl {ts:Ts}:∀{l:List (Nat × Value)},Holds ts l->look ts l=ts
 |[],_=>rfl
 | p::l,h=>by
   funext j
   simp only[look]
   rw[Jl h.2]
   cases e:Nat.beq j p.1
   ·rfl
   ·have:=Nat.eq_of_beq_eq_true e
    subst this
    exact h.1.symm

theorem JL {x:Int}(hx: -9223372036854775808<=x/\x<9223372036854775808):Rl x=x:=by
 unfold Rl IntKind.wrap
 simp[IntKind.bits,IntKind.signed]
 omega
def Is (a b:List Value):Prop:=a=b
theorem Is.eq {a b:List Value}(h:Is a b):a=b:=h
theorem Is.rfl {a:List Value}:Is a a:=Eq.refl a
theorem Is.nil:Is [] []:=Eq.refl _
theorem Is.cons {a a':Value}{as_ as':List Value}(h1:a=a') (h2:Is as_ as'):Is (a::as_) (a'::as'):=by unfold Is at*;rw[h1,h2]
theorem wrap_u64 {x:Int}(hx:0<=x/\x<18446744073709551616):IntKind.u64.wrap x=x:=by
 unfold IntKind.wrap
 simp[IntKind.bits,IntKind.signed]
 omega
theorem wrap_u32 {x:Int}(hx:0<=x/\x<4294967296):IntKind.u32.wrap x=x:=by
 unfold IntKind.wrap
 simp[IntKind.bits,IntKind.signed]
 omega
theorem BQ {v:Value}{k:IntKind}{a b:Int}(h:v= .int k a) (e:a=b):v= .int k b:=by rw[h,e]

inductive Tn (ts:Ts):List Value->List (Nat × Nat × AP)->List Value->Prop
 |nil {z:List Value}:Tn ts z [] z
 |cons {z z' l cs:List Value} {off size:Nat} {x:AP} {ps:List (Nat × Nat × AP)} (hc:Is (Aq (ev ts x)) cs) (hn:cs.length=size) (hl:Nat.ble (off+size) z.length=true) (hs:Is (splice z off cs) z') (h:Tn ts z' ps l):Tn ts z ((off,size,x)::ps) l
theorem Tn.eq {ts:Ts}{z:List Value}{ps:List (Nat × Nat × AP)}{l:List Value}(h:Tn ts z ps l):E5 ts z ps=some l:=by
 induction h with
 |nil=>rfl
 | cons hc hn hl hs _ ih=>
   have hl':=Nat.le_of_ble_eq_true hl
   have hc:=hc.eq
   have hs:=hs.eq
   subst hc hs
   simp only[E5]
   rw[if_pos ⟨hn,hl'⟩]
   exact ih

section
variable {P:Program}{lo base i:Nat}{q:Bool}{K:Ts->H->Prop}{ts:Ts}{h h':H}{v:Value}{xs:List Ao}{d:Option Nat}{g:Option (Nat × Bool)}

variable (hg:BF ts g=true)
include hg

end


section
variable {P:Program}{lo:Nat}{Q:Exit->Ts->H->Prop}{K:Ts->H->Prop}{ts:Ts}{h:H}

theorem Apart.nil {ts:Ts}:Apart [] ts:=by simp[Apart]
theorem Apart.cons {ts:Ts}{a b:AP}{l:List (AP × AP)}{r s:Nat}(ha:Ap (ev ts a)=[r]) (hb:Ap (ev ts b)=[s]) (hne:r≠s) (hl:Apart l ts):Apart ((a,b)::l) ts:=by
 intro p hp
 rcases List.mem_cons.1 hp with rfl|hp
 ·simp only[ha,hb,List.mem_singleton]
  rintro r rfl e
  exact hne e
 ·exact hl p hp
theorem wp_seq {a b:Aj}(w:DV P lo a (Da (DV P lo b Q) Q) ts h):DV P lo (.seq a b) Q ts h:=w
theorem wp_loop {c:Aj}{σ:Type}(L:σ->List (Nat × Value)) (I:σ->H->Prop) (μ:σ->Nat) (s0:σ) (ht:Holds ts (L s0)) (hi:I s0 h)
 (step:∀s g h,I s h->∀K:Ts->H->Prop,(∀s' ts' h',Holds ts' (L s')->I s' h'->μ s'<μ s->K ts' h')->DV P lo c (Da K Q) (look g (L s)) h):DV P lo (.loop c) Q ts h:=by
 have key:∀n s ts h,μ s<=n->Holds ts (L s)->I s h->iter (fun K=>DV P lo c (Da K Q)) (n+1) ts h:=by
  intro n
  induction n with
  | zero=>
    intro s ts h hn ht hi
    have:=step s ts h hi (iter (fun K=>DV P lo c (Da K Q)) 0) (fun s' _ _ _ _ hlt=>by omega)
    rwa [Jl ht]at this
  | succ n ih=>
    intro s ts h hn ht hi
    have:=step s ts h hi (iter (fun K=>DV P lo c (Da K Q)) (n+1)) (fun s' ts' h' ht' hi' hlt=>ih s' ts' h' (by omega) ht' hi')
    rwa [Jl ht]at this
 exact⟨_,key _ s0 ts h (Nat.le_refl _) ht hi⟩

theorem X3 {f:AP}{ps:List Nat}{n nb:Nat}{CB body:Code}{A B:Aj}{fn:FuncId}{first BL as_:List Value}(hv:ev ts f= .func (.func fn) ⟨first⟩ ⟨BL⟩) (en:h.next=nb) (ha:Is (first++[.func (.yield nb) ⟨[]⟩ ⟨[]⟩]++BL) as_)
 (hc:∀L0,L0=FD n ts ps CB body->∃R,AW P fn lo ((h.bump 1).put nb (.loop L0)) as_ R/\
  ∀v h',R v h'->Quiet lo ((h.bump 1).put nb (.loop L0)) h'->∃L,h'.get nb=some (.loop L)/\L.state≠ .busy/\Q (F0 L.pend) ts (h'.put nb .gone)):DV P lo (.range f ps n CB body A B) Q ts h:=by
 subst en
 obtain⟨R,⟨v,h',r,a⟩,hr⟩:=hc _ rfl
 rw[<-ha.eq]at a
 exact⟨fn,first,BL,hv,v,h',a,hr v h' r a.quiet⟩

theorem E6 {c:Aj}{l:List (Nat × Value)}(hl:Holds ts l) (hw:∀g,DV P lo c Q (look g l) h):DV P lo c Q ts h:=by
 have:=hw ts
 rwa [Jl hl]at this


theorem Qr {t:Nat}{v:Value}(hv:ts t=v):Ef P h ts (.tmp t)=some v:=by simp[Ef,hv]
theorem bP {a t n r off:Nat}{c l l':List Value}{e:TypeId}(ht:BU P t=some true) (hn:sizeT P t=some n) (hp:ts a= .pointer (some ⟨r,off,none⟩)) (hg:h.get r=some (.cells c e)) (hl:cut c off n=some l) (hv:Is l l'):
 Ef P h ts (.cell a t)=some (.agg ⟨l'⟩):=by
 simp[Ef,ht,hn,GJ,hp,H.Az,hg,Br,hl,hv.eq]
theorem bO {a t r off:Nat}{c:List Value}{e:TypeId}{v0 v:Value}(ht:BU P t=some false) (hp:ts a= .pointer (some ⟨r,off,none⟩)) (hg:h.get r=some (.cells c e)) (hl:cut c off 1=some [v0]) (hv:v0=v):
 Ef P h ts (.cell a t)=some v:=by
 simp[Ef,ht,GK,hp,H.Az,hg,Br,hl,hv]
theorem qY {R:Value->Prop}{e:Exit}(he:e= .normal\/e= .ret) (hr:R (.tuple #[])):(e= .normal\/e= .ret)/\∃v,E1 P h ts []=some v/\R v:=⟨he,_,rfl,hr⟩
theorem qX {r:ResultVar}{R:Value->Prop}{x:Value}{e:Exit}(he:e= .normal\/e= .ret) (e1:Ef P h ts r=some x) (hr:R x):(e= .normal\/e= .ret)/\∃v,E1 P h ts [r]=some v/\R v:=⟨he,_,e1,hr⟩
theorem qW {r s:ResultVar}{R:Value->Prop}{x y:Value}{e:Exit}(he:e= .normal\/e= .ret) (e1:Ef P h ts r=some x) (e2:Ef P h ts s=some y) (hr:R (.tuple #[x,y])):(e= .normal\/e= .ret)/\∃v,E1 P h ts [r,s]=some v/\R v:=
 ⟨he,_,by simp only[E1,e1,e2,Option.bind_some,Option.map_some],hr⟩
theorem qV {r s t:ResultVar}{R:Value->Prop}{x y z:Value}{e:Exit}(he:e= .normal\/e= .ret) (e1:Ef P h ts r=some x) (e2:Ef P h ts s=some y) (e3:Ef P h ts t=some z) (hr:R (.tuple #[x,y,z])):(e= .normal\/e= .ret)/\∃v,E1 P h ts [r,s,t]=some v/\R v:=
 ⟨he,_,by simp only[E1,e1,e2,e3,Option.bind_some,Option.map_some],hr⟩
theorem HP {v:Value}{p:Prop} [Decidable p] (hv:v= .bool true) (hp:p):v= .bool (decide p):=by rw[hv];simp[hp]
theorem GQ {v:Value}{p:Prop} [Decidable p] (hv:v= .bool false) (hp:¬p):v= .bool (decide p):=by rw[hv];simp[hp]

end


section
variable {h h':H}{r r' n k lo:Nat}{x:A9}{o:Option A9}{a:Addr}{ol:Option (List Value)}
theorem Dv (h:H) (r:Nat) (x:A9):(h.put r x).next=h.next:=rfl
theorem C0 (h:H) (k:Nat):(h.bump k).next=h.next+k:=rfl
theorem Qn (e:r'=r):(h.put r x).get r'=some x:=by subst e;simp[H.put]
theorem YH (hne:r'≠r) (e:h.get r'=o):(h.put r x).get r'=o:=by rw[<-e];simp[H.put,hne]
theorem XD (e:h.get r'=o):(h.bump k).get r'=o:=e
theorem TS (q:Quiet lo h h') (hr:r'<lo) (e:h.get r'=o):h'.get r'=o:=by rw[q.same r' hr];exact e
theorem bH (hne:a.block≠r) (e:h.Az a n=ol):(h.put r x).Az a n=ol:=by rw[<-e];simp[H.Az,H.put,hne]
theorem ah (e:h.Az a n=ol):(h.bump k).Az a n=ol:=e
theorem WJ (q:Quiet lo h h') (hr:a.block<lo) (e:h.Az a n=ol):h'.Az a n=ol:=by rw[<-e];simp[H.Az,q.same _ hr]
theorem B6 {off:Nat}{c:List Value}{e:TypeId}{l:List Value}(hg:h.get r=some (.cells c e)) (hl:cut c off n=some l):h.Az ⟨r,off,none⟩ n=some l:=by
 simp[H.Az,hg,Br,hl]

theorem FR {off:Nat}{c:List Value}{e:TypeId}{v:Value}(hg:h.get r=some (.cells c e)) (hl:c[off]? =some v):h.Az ⟨r,off,none⟩ 1=some [v]:=by
 refine B6 hg ?_
 obtain⟨hlt,he⟩:=List.getElem?_eq_some_iff.1 hl
 unfold cut
 rw[if_pos (by omega),List.drop_eq_getElem_cons hlt,List.take_succ_cons,List.take_zero,he]
theorem Quiet.put' {lo:Nat}{h h':H}{r:Nat}{x:A9}(q:Quiet lo h h') (hr:lo<=r) (hn:r<h'.next):Quiet lo h (h'.put r x):=q.trans (Quiet.put hr hn)
theorem Quiet.mK {lo:Nat}{h h':H}{k:Nat}(q:Quiet lo h h'):Quiet lo h (h'.bump k):=q.trans (Quiet.bump k)
theorem Quiet.trans' {lo lo':Nat}{h h' h'':H}(q:Quiet lo h h') (q':Quiet lo' h' h'') (hl:lo<=lo'):Quiet lo h h'':=q.trans (q'.mono hl)
def Same (m:Nat) (h h':H):Prop:=∀r,r<m->h'.get r=h.get r
theorem Same.refl (m:Nat) (h:H):Same m h h:=fun _ _=>rfl
theorem Same.put {m:Nat}{h h':H}{r:Nat}{x:A9}(s:Same m h h') (hr:m<=r):Same m h (h'.put r x):=fun j hj=>by
 rw[<-s j hj];simp only[H.put];rw[if_neg (by omega)]
theorem Same.bump {m:Nat}{h h':H}{k:Nat}(s:Same m h h'):Same m h (h'.bump k):=s
theorem Same.quiet {m lo:Nat}{h h' h'':H}(s:Same m h h') (q:Quiet lo h' h'') (hl:m<=lo):Same m h h'':=fun j hj=>by rw[q.same j (by omega),s j hj]
theorem Same.Az {m:Nat}{h h':H}(s:Same m h h') {a:Addr}(ha:a.block<m) (n:Nat):h'.Az a n=h.Az a n:=by simp[H.Az,s _ ha]
theorem Same.mono {m m':Nat}{h h':H}(s:Same m h h') (hm:m'<=m):Same m' h h':=fun j hj=>s j (by omega)
theorem Same.trans {m:Nat}{h h' h'':H}(s:Same m h h') (t:Same m h' h''):Same m h h'':=fun j hj=>by rw[t j hj,s j hj]
theorem Yv {m:Nat}(s:Same m h h') (ha:a.block<m) (e:h.Az a n=ol):h'.Az a n=ol:=by rw[s.Az ha];exact e
theorem Yw {m:Nat}(s:Same m h h') (ha:r<m) (e:h.get r=o):h'.get r=o:=by rw[s r ha];exact e
def Ints (h:H) (a:Addr) (n:Nat) (f:Nat->Int):Prop:=∀i,i<n->h.Az (BB a i) 1=some [.int .i64 (f i)]
theorem Ints.at {f:Nat->Int}{m:Nat}(hi:Ints h a n f) (h1:m<n):h.Az (BB a (m*1)) 1=some [.int .i64 (f m)]:=by
 rw[Nat.mul_one];exact hi m h1
def XM (h:H) (a:Addr) (n:Nat) (g:Nat->Value):Prop:=∀i,i<n->h.Az (BB a i) 1=some [g i]
theorem XM.at {g:Nat->Value}{m:Nat}(hi:XM h a n g) (h1:m<n):h.Az (BB a (m*1)) 1=some [g m]:=by
 rw[Nat.mul_one];exact hi m h1
theorem XM.same {m:Nat}{g:Nat->Value}(hi:XM h a n g) (s:Same m h h') (ha:0<n->a.block<m):XM h' a n g:=fun i hlt=>by
 rw[s.Az (a:=BB a i) (by have:=ha (by omega);exact this)];exact hi i hlt
def Ro (h:H) (a:Addr) (n sz:Nat) (f:Nat->List Value):Prop:=∀i,i<n->h.Az (BB a (i*sz)) sz=some (f i)
theorem Ro.at {f:Nat->List Value}{m sz:Nat}(hi:Ro h a n sz f) (h1:m<n):h.Az (BB a (m*sz)) sz=some (f m):=hi m h1
theorem Ro.same {m sz:Nat}{f:Nat->List Value}(hi:Ro h a n sz f) (s:Same m h h') (ha:0<n->a.block<m):Ro h' a n sz f:=fun i hlt=>by
 rw[s.Az (a:=BB a (i*sz)) (by have:=ha (by omega);exact this)];exact hi i hlt
theorem Ints.same {m:Nat}{f:Nat->Int}(hi:Ints h a n f) (s:Same m h h') (ha:0<n->a.block<m):Ints h' a n f:=fun i hlt=>by
 rw[s.Az (a:=BB a i) (by have:=ha (by omega);exact this)];exact hi i hlt
end

theorem AW.args {P:Program}{f:FuncId}{lo:Nat}{h:H}{as_ as':List Value}{R:Value->H->Prop}(hc:AW P f lo h as' R) (e:Is as' as_):AW P f lo h as_ R:=by rw[<-e.eq];exact hc

end AE

/- Walking by evaluation: the weakest precondition turned into questions, one after the other; what lies between two questions is evaluated. -/
namespace AE
open Go


structure Need (p k:Prop):Prop where
 h:p
 k:k
structure Fork (p q a b:Prop):Prop where
 l:p->a
 r:q->b
inductive Start (n l:Nat) (k:Nat->Nat->Prop):Prop
 |mk {nb j:Nat} (e:n=nb) (e':l=j) (h:k nb j)
inductive eJ (h:H) (a:Addr) (k:Value->Prop):Prop
 |mk {v0 v:Value} (e:h.Az a 1=some [v0]) (f:v0=v) (h:k v)
inductive eI (h:H) (a:Addr) (n:Nat) (k:List Value->Prop):Prop
 |mk {l0 l:List Value} (e:h.Az a n=some l0) (f:Is l0 l) (h:k l)
inductive jw (lo:Nat) (h:H) (ad:Addr) (n:Nat) (vs:List Value) (k:H->Prop):Prop
 |mk {r off:Nat} {c c':List Value} {e:TypeId} (ha:ad=⟨r,off,none⟩) (hlo:lo<=r) (hget:h.get r=some (.cells c e)) (hn:vs.length=n) (ho:vs.all Value.oneCell'=true) (hl:Nat.ble (off+n) c.length=true) (hc:Is (splice c off vs) c') (hk:k (h.put r (.cells c' e)))
 |raw {h':H} (e:h.Df lo ad vs=some h') (hn:vs.length=n) (hk:k h')
inductive Ix (b:Option Addr) (n:Nat) (z:Int) (k:Addr->Nat->Prop):Prop
 |mk {a:Addr} {m:Nat} (hb:b=some a) (hz:z=(m:Int)) (hm:m<n) (hk:k a m)
inductive aQ (n:Nat) (z:Int) (k:Nat->Prop):Prop
 |mk {m:Nat} (hz:z=(m:Int)) (hm:m<n) (hk:k m)
inductive Wrap (t:IntKind) (x:Int) (k:Int->Prop):Prop
 |mk {y:Int} (e:t.wrap x=y) (h:k y)
inductive Ov (P:Program) (g lo:Nat) (q:Bool) (h:H) (fv:Value) (args as_:List Value) (k:Value->H->Prop):Prop
 |mk {v:Value} {h':H} (a:AF P g (if q then h.next else lo) h as_ v h') (hk:k v h')
 |raw {v:Value} {h':H} (a:Eg P fv (if q then h.next else lo) h args v h') (hk:k v h')
inductive V5 (P:Program) (fv:Value) (lo:Nat) (q:Bool) (h:H) (args:List Value) (k:Value->H->Prop):Prop
 |mk {v:Value} {h':H} (a:Eg P fv (if q then h.next else lo) h args v h') (hk:k v h')
inductive Dj (P:Program) (lo Av:Nat) (ts:Ts) (h:H) (ao:Bn) (k:Value->H->Prop):Prop
 |mk {v:Value} {h':H} (e:BZ P lo Av ts h ao=some (v,h')) (hk:k v h')
inductive New (n:Nat) (k:Nat->Prop):Prop
 |mk {m:Nat} (e:n=m) (h:k m)
theorem New.out {n:Nat}{k:Nat->Prop}(h:New n k):k n:=by obtain⟨e,h⟩:=h;subst e;exact h
structure At (p:Prop):Prop where
 h:p


def FB:Value->(Value->Prop)->Prop
 |.bool b,k=>k (.bool b)
 |.int t n,k=>k (.int t n)
 |.float t n,k=>k (.float t n)
 |.complex t n m,k=>k (.complex t n m)
 |.string s,k=>k (.string s)
 |.pointer a,k=>k (.pointer a)
 |.slice a n c,k=>k (.slice a n c)
 |.map r,k=>k (.map r)
 |.chan r,k=>k (.chan r)
 |.func f a c,k=>k (.func f a c)
 |.nilFunc,k=>k .nilFunc
 |.iface t v,k=>k (.iface t v)
 |.nilIface,k=>k .nilIface
 |.agg c,k=>k (.agg c)
 |.tuple c,k=>k (.tuple c)
theorem CQ {v:Value}{k:Value->Prop}:FB v k↔k v:=by cases v<;>exact Iff.rfl
theorem Ut {v:Value}{k:Value->Prop}(h:k v):FB v k:=CQ.2 h
def N0:List Value->(List Value->Prop)->Prop
 |[],k=>k []
 |v::l,k=>FB v fun v'=>N0 l fun l'=>k (v'::l')
theorem JV:∀{l:List Value}{k:List Value->Prop},N0 l k↔k l
 |[],_=>Iff.rfl
 |v::l,k=>by simp only[N0,CQ,JV]
theorem Uv {l:List Value}{k:List Value->Prop}(h:k l):N0 l k:=JV.2 h
def bQ:List Value->Nat->(Value->Prop)->Prop
 |[],_,_=>False
 |v::_,0,k=>FB v k
 |_::l,i+1,k=>bQ l i k
theorem Nv:∀{l:List Value}{i:Nat}{k:Value->Prop},bQ l i k->∃v,l[i]? =some v/\k v
 |[],_,_,h=>h.elim
 |v::_,0,_,h=>⟨v,rfl,CQ.1 h⟩
 |_::l,i+1,k,h=>by simpa using Nv (l:=l) (i:=i) (k:=k) h
def takeC:List Value->Nat->(List Value->Prop)->Prop
 |_,0,k=>k []
 |[],_+1,_=>False
 |v::l,n+1,k=>FB v fun v'=>takeC l n fun r=>k (v'::r)
theorem OS:∀{l:List Value}{n:Nat}{k:List Value->Prop},takeC l n k->n<=l.length/\k (l.take n)
 |l,0,k,h=>by cases l<;>exact⟨Nat.zero_le _,h⟩
 |[],_+1,_,h=>h.elim
 | v::l,n+1,k,h=>by
   simp only[takeC,CQ]at h
   have:=OS h
   exact⟨by simp;exact this.1,by simpa using this.2⟩
def jc:List Value->Nat->Nat->(List Value->Prop)->Prop
 |l,0,n,k=>takeC l n k
 |[],_+1,_,_=>False
 |_::l,i+1,n,k=>jc l i n k
theorem SY:∀{l:List Value}{i n:Nat}{k:List Value->Prop},jc l i n k->∃r,cut l i n=some r/\k r
 | l,0,n,k,h=>by
   have h:takeC l n k:=by cases l<;>exact h
   have:=OS h
   exact⟨_,by unfold cut;rw[if_pos (by omega)],by simpa using this.2⟩
 |[],_+1,_,_,h=>h.elim
 | _::l,i+1,n,k,h=>by
   obtain⟨r,h1,h2⟩:=SY (l:=l) h
   refine⟨r,?_,h2⟩
   unfold cut at*
   split at h1
   ·rw[if_pos (by simp;omega)];simpa using h1
   ·cases h1
def R4:List Value->Nat->List Value->(List Value->Prop)->Prop
 |z,0,[],k=>k z
 |_::z,n+1,c::cs,k=>FB c fun c'=>R4 z n cs fun r=>k (c'::r)
 |_,_,_,_=>False
theorem O6:∀{z:List Value}{n:Nat}{cs:List Value}{k:List Value->Prop},R4 z n cs k->cs.length=n/\n<=z.length/\k (cs++z.drop n)
 | z,0,[],k,h=>by
   have h:k z:=by cases z<;>exact h
   exact⟨rfl,Nat.zero_le _,by simpa using h⟩
 | _::z,n+1,c::cs,k,h=>by
   simp only[R4,CQ]at h
   obtain⟨h1,h2,h3⟩:=O6 h
   exact⟨by simp[h1],by simp;exact h2,by simpa using h3⟩
 |[],n+1,cs,_,h=>by cases cs<;>exact h.elim
 |z,0,_::_,_,h=>by cases z<;>exact h.elim
 |_::_,_+1,[],_,h=>h.elim
def P8:List Value->Nat->Nat->List Value->(List Value->Prop)->Prop
 |z,0,n,cs,k=>R4 z n cs k
 |[],_+1,_,_,_=>False
 |v::z,i+1,n,cs,k=>P8 z i n cs fun r=>k (v::r)
theorem L3:∀{z:List Value}{i n:Nat}{cs:List Value}{k:List Value->Prop},P8 z i n cs k->cs.length=n/\i+n<=z.length/\k (splice z i cs)
 | z,0,n,cs,k,h=>by
   have h:R4 z n cs k:=by cases z<;>exact h
   obtain⟨h1,h2,h3⟩:=O6 h
   refine⟨h1,by omega,?_⟩
   unfold splice
   simpa[h1]using h3
 |[],_+1,_,_,_,h=>h.elim
 | v::z,i+1,n,cs,k,h=>by
   obtain⟨h1,h2,h3⟩:=L3 (z:=z) h
   refine⟨h1,by simp;omega,?_⟩
   unfold splice at*
   have e:i+1+cs.length=(i+cs.length)+1:=by omega
   simpa[e]using h3

def Oa:Value->(List Value->Prop)->Prop
 |.agg ⟨l⟩,k=>N0 l k
 |v,k=>FB v fun v'=>k [v']
theorem JY {v:Value}{k:List Value->Prop}(h:Oa v k):k (Aq v):=by
 unfold Oa at h
 split at h
 ·exact JV.1 h
 ·rename_i hv
  have h:=CQ.1 h
  have:Aq v=[v]:=by
   cases v with
   |agg c=>obtain⟨l⟩:=c;exact(hv l rfl).elim
   |_=>rfl
  rw[this];exact h
def VK (ts:Ts):List Value->List (Nat × Nat × AP)->(List Value->Prop)->Prop
 |z,[],k=>k z
 |z,(off,size,x)::ps,k=>Oa (ev ts x) fun cs=>P8 z off size cs fun z'=>VK ts z' ps k
theorem LF {ts:Ts}:∀{ps:List (Nat × Nat × AP)} {z:List Value} {k:List Value->Prop},VK ts z ps k->∃l,E5 ts z ps=some l/\k l
 |[],z,k,h=>⟨z,rfl,h⟩
 | (off,size,x)::ps,z,k,h=>by
   obtain⟨h1,h2,h3⟩:=L3 (JY h)
   obtain⟨l,e,hk⟩:=LF h3
   refine⟨l,?_,hk⟩
   simp only[E5]
   rw[if_pos ⟨h1,h2⟩]
   exact e
def Xu (ts:Ts):List AP->(List Value->Prop)->Prop
 |[],k=>k []
 |x::xs,k=>FB (ev ts x) fun v=>Xu ts xs fun l=>k (v::l)
theorem KO {ts:Ts}:∀{xs:List AP} {k:List Value->Prop},Xu ts xs k↔k (xs.map (ev ts))
 |[],_=>Iff.rfl
 |x::xs,k=>by simp only[Xu,CQ,KO,List.map_cons]
def az:List Value->List Value->(List Value->Prop)->Prop
 |[],l,k=>k l
 |v::l',l,k=>az l' l fun r=>k (v::r)
theorem I5:∀{a b:List Value}{k:List Value->Prop},az a b k↔k (a++b)
 |[],_,_=>Iff.rfl
 |v::a,b,k=>by simp only[az,I5,List.cons_append]


def RX:Value->(Addr->Prop)->Prop
 |.pointer (some a),k=>k a
 |_,_=>False
theorem G1 {v:Value}{k:Addr->Prop}(h:RX v k):∃a,v= .pointer (some a)/\k a:=by
 unfold RX at h;split at h
 ·exact⟨_,rfl,h⟩
 ·exact h.elim
def dA:Value->(List Value->Prop)->Prop
 |.agg ⟨l⟩,k=>k l
 |_,_=>False
theorem Tf {v:Value}{k:List Value->Prop}(h:dA v k):∃l,v= .agg ⟨l⟩/\k l:=by
 unfold dA at h;split at h
 ·exact⟨_,rfl,h⟩
 ·exact h.elim
def KG:Value->(Int->Prop)->Prop
 |.int .i64 a,k=>k a
 |_,_=>False
theorem Fe {v:Value}{k:Int->Prop}(h:KG v k):∃a,v= .int .i64 a/\k a:=by
 unfold KG at h;split at h
 ·exact⟨_,rfl,h⟩
 ·exact h.elim
def aB:Value->(IntKind->Int->Prop)->Prop
 |.int t a,k=>k t a
 |_,_=>False
theorem Og {v:Value}{k:IntKind->Int->Prop}(h:aB v k):∃t a,v= .int t a/\k t a:=by
 unfold aB at h;split at h
 ·exact⟨_,_,rfl,h⟩
 ·exact h.elim
def S8:Value->Prop->Prop->Prop
 |.bool true,a,_=>a
 |.bool false,_,b=>b
 |_,_,_=>False
theorem LO {v:Value}{a b:Prop}(h:S8 v a b):(v= .bool true/\a)\/(v= .bool false/\b):=by
 unfold S8 at h;split at h
 ·exact .inl ⟨rfl,h⟩
 ·exact .inr ⟨rfl,h⟩
 ·exact h.elim
inductive jM (x:Int) (k:Int->Prop):Prop
 |ok (h: -9223372036854775808<=x/\x<9223372036854775808) (hk:k x)
 |wr (hk:k (Rl x))
theorem jM.out {x:Int}{k:Int->Prop}(h:jM x k):k (Rl x):=by
 rcases h with⟨h,hk⟩|hk
 ·rw[JL h];exact hk
 ·exact hk
def kV (k:Value->Prop) (a b:Int):aL->Prop
 |.add=>jM (a+b) fun z=>k (.int .i64 z)
 |.sub=>jM (a - b) fun z=>k (.int .i64 z)
 |.mul=>jM (a*b) fun z=>k (.int .i64 z)
 |.eql=>Fork (a=b) (a≠b) (k (.bool true)) (k (.bool false))
 |.neq=>Fork (a≠b) (a=b) (k (.bool true)) (k (.bool false))
 |.lss=>Fork (a<b) (b<=a) (k (.bool true)) (k (.bool false))
 |.leq=>Fork (a<=b) (b<a) (k (.bool true)) (k (.bool false))
 |.gtr=>Fork (b<a) (a<=b) (k (.bool true)) (k (.bool false))
 |.geq=>Fork (b<=a) (a<b) (k (.bool true)) (k (.bool false))
theorem Zo {k:Value->Prop}{a b:Int}{op:aL}(h:kV k a b op):k (Tp op a b):=by
 cases op
 case add=>exact h.out
 case sub=>exact h.out
 case mul=>exact h.out
 case eql=>
  by_cases c:a=b
  ·have:=h.l c;simpa[Tp,c]using this
  ·show k (.bool (a==b));rw[show(a==b)=false by simp[c]];exact h.r c
 case neq=>
  by_cases c:a=b
  ·have:=h.r c;simpa[Tp,c]using this
  ·show k (.bool (a !=b));rw[show(a !=b)=true by simp[c]];exact h.l c
 case lss=>
  by_cases c:a<b
  ·have:=h.l c;simpa[Tp,c]using this
  ·have:=h.r (by omega);simpa[Tp,c]using this
 case leq=>
  by_cases c:a<=b
  ·have:=h.l c;simpa[Tp,c]using this
  ·have:=h.r (by omega);simpa[Tp,c]using this
 case gtr=>
  by_cases c:b<a
  ·have:=h.l c;simpa[Tp,c]using this
  ·have:=h.r (by omega);simpa[Tp,c]using this
 case geq=>
  by_cases c:b<=a
  ·have:=h.l c;simpa[Tp,c]using this
  ·have:=h.r (by omega);simpa[Tp,c]using this
inductive nG (a b:Int) (k:Int->Prop):Prop
 |nn (h:0<=a/\a<9223372036854775808/\0<b) (hk:k (a / b))
 |td (h: -9223372036854775808<a/\a<9223372036854775808/\b≠0) (hk:k (a.tdiv b))
inductive nD (a b:Int) (k:Int->Prop):Prop
 |nn (h:0<=a/\0<b) (hk:k (a%b))
 |tm (h:b≠0) (hk:k (a.tmod b))
def divC (k:Value->Prop) (a b:Int):Bool->Prop
 |true=>nG a b fun z=>k (.int .i64 z)
 |false=>nD a b fun z=>k (.int .i64 z)
theorem bg {a b:Int}(h1: -9223372036854775808<a) (h2:a<9223372036854775808): -9223372036854775808<=a.tdiv b/\a.tdiv b<9223372036854775808:=by
 have:(a.tdiv b).natAbs<=a.natAbs:=by
  rw[Int.natAbs_tdiv]
  exact Nat.div_le_self _ _
 omega
theorem ZO {k:Value->Prop}{a b:Int}{q:Bool}(h:divC k a b q):∃v,LY q (.int .i64 a) (.int .i64 b)=some v/\k v:=by
 cases q
 ·rcases h with⟨⟨h1,h2⟩,hk⟩|⟨h1,hk⟩
  ·have e:a.tmod b=a%b:=Int.tmod_eq_emod_of_nonneg h1
   exact⟨_,by simp[LY,e];omega,hk⟩
  ·exact⟨_,by simp[LY,h1],hk⟩
 ·rcases h with⟨⟨h0,h1,h2⟩,hk⟩|⟨⟨h1,h2,h3⟩,hk⟩
  ·have e:a.tdiv b=a / b:=Int.tdiv_eq_ediv_of_nonneg h0
   have h3:0<=a / b:=Int.ediv_nonneg h0 (by omega)
   have h4:a / b<=a:=Int.ediv_le_self _ h0
   have hw:Rl (a / b)=a / b:=JL (by omega)
   exact⟨_,by simp[LY,e,hw];omega,hk⟩
  ·have hw:Rl (a.tdiv b)=a.tdiv b:=JL (bg h1 h2)
   exact⟨_,by simp[LY,h3,hw],hk⟩
def dQ (k:Value->Prop) (a b:Int):Bool->Prop
 |true=>k (.int .i64 (max a b))
 |false=>k (.int .i64 (min a b))
theorem WQ {k:Value->Prop}{a b:Int}{m:Bool}(h:dQ k a b m):∃v,OO m (.int .i64 a) (.int .i64 b)=some v/\k v:=by
 cases m
 ·refine⟨_,?_,h⟩
  have:(if b<a then b else a)=min a b:=by split<;>omega
  simp[OO,this]
 ·refine⟨_,?_,h⟩
  have:(if a<b then b else a)=max a b:=by split<;>omega
  simp[OO,this]
def nJ:Value->(Option Addr->Nat->Nat->Prop)->Prop
 |.slice b n c,k=>k b n c
 |_,_=>False
theorem U8 {v:Value}{k:Option Addr->Nat->Nat->Prop}(h:nJ v k):∃b n c,v= .slice b n c/\k b n c:=by
 unfold nJ at h;split at h
 ·exact⟨_,_,_,rfl,h⟩
 ·exact h.elim
def eZ:Value->(List Value->Prop)->Prop
 |.tuple ⟨l⟩,k=>k l
 |_,_=>False
theorem Ye {v:Value}{k:List Value->Prop}(h:eZ v k):∃l,v= .tuple ⟨l⟩/\k l:=by
 unfold eZ at h;split at h
 ·exact⟨_,rfl,h⟩
 ·exact h.elim
def negC (k:Value->Prop) (a:Int):Prop:=Need (-9223372036854775808<a/\a<9223372036854775808) (k (.int .i64 (-a)))

def opC (P:Program) (lo Av:Nat) (ts:Ts) (h:H) (k:Value->H->Prop):Bn->Prop
 |.mv x=>FB (ev ts x) fun v=>k v h
 |.pick c a b=>S8 (ev ts c) (FB (ev ts a) fun v=>k v h) (FB (ev ts b) fun v=>k v h)
 |.alloc z e=>New Av fun Av=>k (.pointer (some ⟨Av,0,none⟩)) (h.put Av (.cells z e))
 |.box x e=>Oa (ev ts x) fun cs=>New Av fun Av=>k (.pointer (some ⟨Av,0,none⟩)) (h.put Av (.cells cs e))
 |.build z ps=>VK ts z ps fun l=>k (.agg ⟨l⟩) h
 |.CI z ps len e=>VK ts z ps fun l=>New Av fun Av=>k (.slice (some ⟨Av,0,none⟩) len len) (h.put Av (.cells l e))
 |.Ad a=>RX (ev ts a) fun ad=>eJ h ad fun v=>k v h
 |.Bb n a=>RX (ev ts a) fun ad=>eI h ad n fun l=>k (.agg ⟨l⟩) h
 |.store n a x=>RX (ev ts a) fun ad=>Oa (ev ts x) fun cs=>jw lo h ad n cs fun h'=>k undef h'
 |.AY x=>RX (ev ts x) fun a=>k (.pointer (some a)) h
 |.int op x y=>KG (ev ts x) fun a=>KG (ev ts y) fun b=>kV (fun v=>k v h) a b op
 |.Ls q x y=>KG (ev ts x) fun a=>KG (ev ts y) fun b=>divC (fun v=>k v h) a b q
 |.not x=>S8 (ev ts x) (k (.bool false) h) (k (.bool true) h)
 |.neg x=>KG (ev ts x) fun a=>negC (fun v=>k v h) a
 |.conv t x=>aB (ev ts x) fun _ a=>Wrap t a fun a=>k (.int t a) h
 |.R9 m x y=>KG (ev ts x) fun a=>KG (ev ts y) fun b=>dQ (fun v=>k v h) a b m
 |.Jw t x=>FB (ev ts x) fun v=>k (.iface t v) h
 |.NC fn fs cs=>Xu ts fs fun l=>Xu ts cs fun m=>k (.func fn ⟨l⟩ ⟨m⟩) h
 |.Ab off x=>RX (ev ts x) fun a=>k (.pointer (some (BB a off))) h
 |.field1 off x=>dA (ev ts x) fun l=>bQ l off fun v=>k v h
 |.N2 off n x=>dA (ev ts x) fun l=>jc l off n fun l'=>k (.agg ⟨l'⟩) h
 |.D4 sz x i=>nJ (ev ts x) fun b n _=>aB (ev ts i) fun _ z=>Ix b n z fun a m=>k (.pointer (some (BB a (m*sz)))) h
 |.Hf n sz x i=>RX (ev ts x) fun a=>aB (ev ts i) fun _ z=>aQ n z fun m=>k (.pointer (some (BB a (m*sz)))) h
 |.extract x i=>eZ (ev ts x) fun l=>bQ l i fun v=>k v h
 |.len x=>nJ (ev ts x) fun _ n _=>k (.int .i64 n) h
 |o=>New Av fun Av=>Dj P lo Av ts h o k

set_option maxHeartbeats 1000000 in
theorem bM {P:Program}{lo Av:Nat}{ts:Ts}{h:H}{k:Value->H->Prop}{o:Bn}(hc:opC P lo Av ts h k o):∃v h',BZ P lo Av ts h o=some (v,h')/\k v h':=by
 cases o<;>simp only[opC]at hc
 case mv x=>exact⟨_,_,rfl,CQ.1 hc⟩
 case pick c a b=>
  rcases LO hc with⟨e,hk⟩|⟨e,hk⟩
  ·exact⟨_,_,by simp[BZ,keep,OM,e],CQ.1 hk⟩
  ·exact⟨_,_,by simp[BZ,keep,OM,e],CQ.1 hk⟩
 case alloc z e=>exact⟨_,_,rfl,hc.out⟩
 case box x e=>exact⟨_,_,rfl,(JY hc).out⟩
 case build z ps=>
  obtain⟨l,e,hk⟩:=LF hc
  exact⟨_,_,by simp[BZ,keep,e],hk⟩
 case CI z ps len e=>
  obtain⟨l,e,hk⟩:=LF hc
  exact⟨_,_,by simp[BZ,e],hk.out⟩
 case Ad a=>
  obtain⟨ad,e,hk⟩:=G1 hc
  obtain⟨e1,e2,e3⟩:=hk
  subst e2
  exact⟨_,_,by simp[BZ,keep,GK,e,e1],e3⟩
 case Bb n a=>
  obtain⟨ad,e,hk⟩:=G1 hc
  obtain⟨e1,e2,e3⟩:=hk
  have e2:=e2.eq
  subst e2
  exact⟨_,_,by simp[BZ,keep,GJ,e,e1],e3⟩
 case store n a x=>
  obtain⟨ad,e,hk⟩:=G1 hc
  have hk:=JY hk
  rcases hk with⟨ha,hlo,hget,hn,ho,hl,hcc,hk⟩|⟨hst,hn,hk⟩
  rotate_left
  ·refine⟨_,_,?_,hk⟩
   simp[BZ,Hs,e,hst,hn]
  subst ha
  have hcc:=hcc.eq
  subst hcc
  refine⟨_,_,?_,hk⟩
  have hl':=Nat.le_of_ble_eq_true hl
  subst hn
  have ho':∀a∈Aq (ev ts x),a.oneCell'=true:=by simpa using ho
  simp[BZ,Hs,e,H.Df,hlo,hget,Cw,hl']
  exact ho'
 case AY x=>
  obtain⟨ad,e,hk⟩:=G1 hc
  exact⟨_,_,by simp[BZ,keep,MR,e],hk⟩
 case int op x y=>
  obtain⟨a,e1,hk⟩:=Fe hc
  obtain⟨b,e2,hk⟩:=Fe hk
  exact⟨_,_,by simp[BZ,keep,XY,e1,e2],Zo hk⟩
 case Ls q x y=>
  obtain⟨a,e1,hk⟩:=Fe hc
  obtain⟨b,e2,hk⟩:=Fe hk
  obtain⟨v,e3,hk⟩:=ZO hk
  exact⟨_,_,by simp[BZ,keep,e1,e2,e3],hk⟩
 case not x=>
  rcases LO hc with⟨e,hk⟩|⟨e,hk⟩
  ·exact⟨_,_,by simp[BZ,keep,Wa,e],hk⟩
  ·exact⟨_,_,by simp[BZ,keep,Wa,e],hk⟩
 case neg x=>
  obtain⟨a,e1,hk⟩:=Fe hc
  have hn:=hk.h
  have:Rl (0 - a)= -a:=by rw[JL (by omega)];omega
  exact⟨_,_,by simp only[BZ,keep,aS,e1,this,Option.map],hk.k⟩
 case conv t x=>
  obtain⟨t',a,e1,hk⟩:=Og hc
  obtain⟨hw,hk⟩:=hk
  exact⟨_,_,by simp only[BZ,keep,U1,e1,hw,Option.map],hk⟩
 case R9 m x y=>
  obtain⟨a,e1,hk⟩:=Fe hc
  obtain⟨b,e2,hk⟩:=Fe hk
  obtain⟨v,e3,hk⟩:=WQ hk
  exact⟨_,_,by simp[BZ,keep,e1,e2,e3],hk⟩
 case Jw t x=>exact⟨_,_,rfl,CQ.1 hc⟩
 case NC fn fs cs=>exact⟨_,_,rfl,KO.1 (KO.1 hc)⟩
 case Ab off x=>
  obtain⟨ad,e,hk⟩:=G1 hc
  exact⟨_,_,by simp[BZ,keep,MV,e],hk⟩
 case field1 off x=>
  obtain⟨l,e,hk⟩:=Tf hc
  obtain⟨v,e2,hk⟩:=Nv hk
  exact⟨_,_,by simp[BZ,keep,Ke,e,e2],hk⟩
 case N2 off n x=>
  obtain⟨l,e,hk⟩:=Tf hc
  obtain⟨v,e2,hk⟩:=SY hk
  exact⟨_,_,by simp[BZ,keep,My,e,e2],hk⟩
 case D4 sz x i=>
  obtain⟨b,n,c,e,hk⟩:=U8 hc
  obtain⟨t,z,e2,hk⟩:=Og hk
  obtain⟨hb,hz,hm,hk'⟩:=hk
  subst hb hz
  exact⟨_,_,by simp[BZ,keep,Rs,e,e2,Cv,hm],hk'⟩
 case Hf n sz x i=>
  obtain⟨a,e,hk⟩:=G1 hc
  obtain⟨t,z,e2,hk⟩:=Og hk
  obtain⟨hz,hm,hk'⟩:=hk
  subst hz
  exact⟨_,_,by simp[BZ,keep,MU,e,e2,Cv,hm],hk'⟩
 case extract x i=>
  obtain⟨l,e,hk⟩:=Ye hc
  obtain⟨v,e2,hk⟩:=Nv hk
  exact⟨_,_,by simp[BZ,keep,Ik,e,e2],hk⟩
 case len x=>
  obtain⟨b,n,c,e,hk⟩:=U8 hc
  exact⟨_,_,by simp[BZ,keep,XV,e],hk⟩
 all_goals
  obtain⟨e,hk⟩:=hc.out
  exact⟨_,_,e,hk⟩


def S5 (P:Program) (lo:Nat) (q:Bool) (h:H) (args:List Value) (k:Value->H->Prop):Value->Prop
 |.func (.func g) ⟨first⟩ ⟨BL⟩=>az args BL fun l=>az first l fun as_=>Ov P g lo q h (.func (.func g) ⟨first⟩ ⟨BL⟩) args as_ k
 |fv=>V5 P fv lo q h args k
theorem XB {P:Program}{lo:Nat}{q:Bool}{h:H}{args:List Value}{k:Value->H->Prop}{fv:Value}(hc:V5 P fv lo q h args k):S5 P lo q h args k fv:=by
 unfold S5
 split
 ·rename_i g first BL
  obtain⟨a,hk⟩:=hc
  exact I5.2 (I5.2 (.raw a hk))
 ·exact hc
theorem XA {P:Program}{lo:Nat}{q:Bool}{h:H}{args:List Value}{k:Value->H->Prop}{fv:Value}(hc:S5 P lo q h args k fv):∃v h',Eg P fv (if q then h.next else lo) h args v h'/\k v h':=by
 unfold S5 at hc
 split at hc
 ·rename_i g first BL
  have:=I5.1 (I5.1 hc)
  rcases this with⟨a,hk⟩|⟨a,hk⟩
  ·rw[<-List.append_assoc]at a
   exact⟨_,_,AF.V0 a,hk⟩
  ·exact⟨_,_,a,hk⟩
 ·obtain⟨a,hk⟩:=hc
  exact⟨_,_,a,hk⟩

def ZD (b:Bool) (x y:Prop):Prop:=match b with
 |true=>x
 |false=>y
theorem Pu {b:Bool}{x y:Prop}(h:ZD b x y):(b=true/\x)\/(b=false/\y):=by
 cases b
 ·exact .inr ⟨rfl,h⟩
 ·exact .inl ⟨rfl,h⟩
def gA (P:Program) (lo:Nat) (q:Bool) (Av:Nat) (ts:Ts) (h:H) (k:Value->H->Prop):LX->Prop
 |.op ao=>opC P lo Av ts h k ao
 |.call f args=>Xu ts args fun as_=>S5 P lo q h as_ k (ev ts f)
def Dl (ts:Ts) (v:Value) (k:Ts->Prop):Option Nat->Prop
 |some d=>k (Mr ts d v)
 |none=>k ts
theorem Bl {ts:Ts}{v:Value}{k:Ts->Prop}{d:Option Nat}(h:Dl ts v k d):k (EY ts v d):=by
 cases d with
 |none=>exact h
 |some d=>rw[<-ay];exact h
def WG (P:Program) (lo:Nat) (q:Bool) (base:Nat) (K:Ts->H->Prop):Nat->List Ao->Ts->H->Prop
 |_,[]=>K
 |i,⟨d,g,ins⟩::rest=>fun ts h=>ZD (BF ts g) (gA P lo q (base+i) ts h (fun v h'=>Dl ts v (fun ts'=>WG P lo q base K (i+1) rest ts' h') d) ins) (Dl ts undef (fun ts'=>WG P lo q base K (i+1) rest ts' h) d)
theorem Iq {P:Program}{lo base:Nat}{q:Bool}{K:Ts->H->Prop}:∀{xs:List Ao} {i:Nat} {ts:Ts} {h:H},WG P lo q base K i xs ts h->Run P lo q base i xs K ts h
 |[],_,_,_,h=>h
 | ⟨d,g,ins⟩::rest,i,ts,h,hc=>by
   simp only[WG]at hc
   simp only[Run]
   rcases Pu hc with⟨e,hk⟩|⟨e,hk⟩
   ·rw[if_pos e]
    cases ins with
    | op ao=>
      simp only[gA]at hk
      obtain⟨v,h',ha,hk⟩:=bM hk
      exact⟨v,h',ha,Iq (Bl hk)⟩
    | call f args=>
      simp only[gA]at hk
      obtain⟨v,h',ha,hk⟩:=XA (KO.1 hk)
      exact⟨v,h',ha,Iq (Bl hk)⟩
   ·rw[if_neg (by simp[e])]
    exact Iq (Bl hk)

def dM (K:Ts->H->Prop) (Q:Exit->Ts->H->Prop):Exit->Ts->H->Prop
 |.normal=>K
 |e=>Q e
theorem Yf (K:Ts->H->Prop) (Q:Exit->Ts->H->Prop):dM K Q=Da K Q:=by
 funext e ts h
 cases e<;>rfl
def UN (id:Nat) (Q:Exit->Ts->H->Prop):Exit->Ts->H->Prop
 |.exit id'=>fun ts h=>ZD (Nat.beq id' id) (Q .normal ts h) (Q (.exit id') ts h)
 |e=>Q e
theorem UM {id:Nat}{Q:Exit->Ts->H->Prop}{e:Exit}{ts:Ts}{h:H}(hc:UN id Q e ts h):C9 id Q e ts h:=by
 cases e<;>first|exact hc|skip
 rename_i id'
 simp only[UN]at hc
 simp only[C9]
 rcases Pu hc with⟨e,hk⟩|⟨e,hk⟩
 ·rw[if_pos (Nat.eq_of_beq_eq_true e)];exact hk
 ·rw[if_neg (fun c=>by subst c;simp at e)];exact hk
def sw (ap:List (AP × AP)) (ts:Ts) (k:Prop):Prop:=match ap with
 |[]=>k
 |_::_=>Need (Apart ap ts) k
theorem dx {ap:List (AP × AP)}{ts:Ts}{k:Prop}(h:sw ap ts k):Apart ap ts/\k:=by
 cases ap with
 |nil=>exact⟨by simp[Apart],h⟩
 |cons _ _=>exact⟨h.h,h.k⟩

def wpC (P:Program) (lo:Nat):Aj->(Exit->Ts->H->Prop)->Ts->H->Prop
 |.skip,Q=>Q .normal
 |.ret,Q=>Q .ret
 |.exit id,Q=>Q (.exit id)
 |.seq a b,Q=>wpC P lo a (dM (wpC P lo b Q) Q)
 |.cond c a b,Q=>fun ts h=>S8 (ev ts c) (wpC P lo a Q ts h) (wpC P lo b Q ts h)
 |.block id c,Q=>wpC P lo c (UN id Q)
 |.reg ops,Q=>fun ts h=>Start h.next ops.length fun nb j=>WG P lo false nb (Q .normal) 0 ops ts (h.bump j)
 |.Ck ops ap,Q=>fun ts h=>Start h.next ops.length fun nb j=>WG P lo true nb (fun ts' h'=>sw ap ts' (Q .normal ts' h')) 0 ops ts (h.bump j)
 |.loop c,Q=>fun ts h=>At (DV P lo (.loop c) Q ts h)
 |.range f ps n CB body x y,Q=>fun ts h=>At (DV P lo (.range f ps n CB body x y) Q ts h)
 |.next x a b,Q=>fun ts h=>At (DV P lo (.next x a b) Q ts h)

theorem Jn {F G:(Ts->H->Prop)->Ts->H->Prop}(rW:∀K K':Ts->H->Prop,(∀ts h,K ts h->K' ts h)->∀ts h,F K ts h->G K' ts h):∀k ts h,iter F k ts h->iter G k ts h
 |0,_,_,h=>h
 |k+1,ts,h,hi=>rW _ _ (Jn rW k) ts h hi
theorem Ei {P:Program}{lo base:Nat}{q:Bool}{K K':Ts->H->Prop}(hK:∀ts h,K ts h->K' ts h):∀{xs:List Ao} {i:Nat} {ts:Ts} {h:H},Run P lo q base i xs K ts h->Run P lo q base i xs K' ts h
 |[],_,_,_,h=>hK _ _ h
 | o::rest,i,ts,h,hr=>by
   simp only[Run]at hr⊢
   split
   ·rename_i hw
    rw[if_pos hw]at hr
    cases hi:o.ins with
    | op ao=>
      rw[hi]at hr
      obtain⟨v,h',ha,hr⟩:=hr
      exact⟨v,h',ha,Ei hK hr⟩
    | call f args=>
      rw[hi]at hr
      obtain⟨v,h',ha,hr⟩:=hr
      exact⟨v,h',ha,Ei hK hr⟩
   ·rename_i hw
    rw[if_neg hw]at hr
    exact Ei hK hr
theorem BW {P:Program}{lo:Nat}:∀(A:Aj) {Q Q':Exit->Ts->H->Prop},(∀e ts h,Q e ts h->Q' e ts h)->∀ts h,DV P lo A Q ts h->DV P lo A Q' ts h
 |.skip,_,_,hq,ts,h,w=>hq _ _ _ w
 |.ret,_,_,hq,ts,h,w=>hq _ _ _ w
 |.exit _,_,_,hq,ts,h,w=>hq _ _ _ w
 |.seq a b,Q,Q',hq,ts,h,w=>BW a (Q:=Da (DV P lo b Q) Q) (fun e ts h x=>by cases e<;>first|exact BW b hq _ _ x|exact hq _ _ _ x) ts h w
 | .cond c a b,Q,Q',hq,ts,h,w=>by
   obtain⟨t,e,w⟩:=w
   refine⟨t,e,?_⟩
   split
   ·rename_i ht;rw[if_pos ht]at w;exact BW a hq _ _ w
   ·rename_i ht;rw[if_neg ht]at w;exact BW b hq _ _ w
 |.block id c,Q,Q',hq,ts,h,w=>BW c (Q:=C9 id Q) (fun e ts h x=>by
  cases e<;>first|exact hq _ _ _ x|skip
  simp only[C9]at x⊢
  split
  ·rename_i ht;rw[if_pos ht]at x;exact hq _ _ _ x
  ·rename_i ht;rw[if_neg ht]at x;exact hq _ _ _ x) ts h w
 | .loop c,Q,Q',hq,ts,h,w=>by
   obtain⟨k,w⟩:=w
   exact⟨k,Jn (fun K K' hK ts h x=>BW c (Q:=Da K Q) (fun e ts h y=>by cases e<;>first|exact hK _ _ y|exact hq _ _ _ y) ts h x) k ts h w⟩
 |.reg ops,Q,Q',hq,ts,h,w=>Ei (hq .normal) w
 |.Ck ops ap,Q,Q',hq,ts,h,w=>Ei (K:=fun ts' h'=>Apart ap ts'/\Q .normal ts' h') (fun ts h x=>⟨x.1,hq _ _ _ x.2⟩) w
 | .range f ps n CB body x y,Q,Q',hq,ts,h,w=>by
   obtain⟨g,first,BL,e,v,h',a,L,hL,hs,w⟩:=w
   exact⟨g,first,BL,e,v,h',a,L,hL,hs,hq _ _ _ w⟩
 | .next x a b,Q,Q',hq,ts,h,w=>by
   obtain⟨r,m,since,seen,c0,es,clock,e1,hlo,hrm,hg,hgm,hold,hsc,hw0,hw1⟩:=w
   exact⟨r,m,since,seen,c0,es,clock,e1,hlo,hrm,hg,hgm,hold,hsc,fun h=>hq _ _ _ (hw0 h),fun e he hn=>hq _ _ _ (hw1 e he hn)⟩

theorem Jb {P:Program}{lo:Nat}:∀(A:Aj) {Q:Exit->Ts->H->Prop} {ts:Ts} {h:H},wpC P lo A Q ts h->DV P lo A Q ts h
 |.skip,_,_,_,w=>w
 |.ret,_,_,_,w=>w
 |.exit _,_,_,_,w=>w
 | .seq a b,Q,ts,h,w=>by
   have:=Jb a w
   rw[Yf]at this
   exact BW a (fun e ts h x=>by cases e<;>first|exact Jb b x|exact x) ts h this
 | .cond c a b,Q,ts,h,w=>by
   rcases LO w with⟨e,w⟩|⟨e,w⟩
   ·exact⟨true,e,by simpa using Jb a w⟩
   ·exact⟨false,e,by simpa using Jb b w⟩
 |.block id c,Q,ts,h,w=>BW c (fun e ts h x=>UM x) ts h (Jb c w)
 | .reg ops,Q,ts,h,w=>by
   obtain⟨e,e',w⟩:=w
   subst e e'
   exact Iq w
 | .Ck ops ap,Q,ts,h,w=>by
   obtain⟨e,e',w⟩:=w
   subst e e'
   exact Ei (fun ts h x=>dx x) (Iq w)
 |.loop c,Q,ts,h,w=>w.h
 |.range f ps n CB body x y,Q,ts,h,w=>w.h
 |.next x a b,Q,ts,h,w=>w.h
theorem wpC.to {P:Program}{lo:Nat}{A:Aj}{Q:Exit->Ts->H->Prop}{ts:Ts}{h:H}(w:wpC P lo A Q ts h):DV P lo A Q ts h:=Jb A w


section
variable {P:Program}{fn lo nb:Nat}{q:Bool}{h:H}{fv:Value}{args as_:List Value}{k:Value->H->Prop}
theorem Ak {R:Value->H->Prop}(en:h.next=nb) (hlo:lo<=nb) (hc:AW P fn h.next h as_ R) (hr:∀v h',R v h'->Quiet nb h h'->nb<=h'.next->k v h'):Ov P fn lo q h fv args as_ k:=by
 obtain⟨v,h',r,a⟩:=hc
 subst en
 have hq:=a.quiet
 exact .mk (a.mono (by split<;>omega)) (hr v h' r hq hq.next)
theorem Eo {X:Value}(en:h.next=nb) (hlo:lo<=nb) (hc:AW P fn h.next h as_ (fun v _=>v=X)) (hr:∀h',Quiet nb h h'->nb<=h'.next->k X h'):Ov P fn lo q h fv args as_ k:=
 Ak en hlo hc fun _ h' e hq hn=>by subst e;exact hr h' hq hn
theorem Vj {b:Bool}(en:h.next=nb) (hlo:lo<=nb) (hc:AW P fn h.next h as_ (fun v _=>v= .bool b)) (ht:b=true->∀h',Quiet nb h h'->nb<=h'.next->k (.bool true) h') (hf:b=false->∀h',Quiet nb h h'->nb<=h'.next->k (.bool false) h'):Ov P fn lo q h fv args as_ k:=
 Eo en hlo hc fun h' hq hn=>by
  cases hb:b
  ·exact hf hb h' hq hn
  ·exact ht hb h' hq hn
theorem AH {b:Bool}(ht:b=true->∀h',Quiet nb h h'->nb<=h'.next->k (.bool true) h') (hf:b=false->∀h',Quiet nb h h'->nb<=h'.next->k (.bool false) h'):∀v h',v= .bool b->Quiet nb h h'->nb<=h'.next->k v h':=by
 rintro _ h' rfl hq hn
 cases hb:b
 ·exact hf hb h' hq hn
 ·exact ht hb h' hq hn
theorem AG {p:Prop}{X Y:Value}{inst:Decidable p}(ht:p->∀h',Quiet nb h h'->nb<=h'.next->k X h') (hf:¬p->∀h',Quiet nb h h'->nb<=h'.next->k Y h'):∀v h',v=(if p then X else Y)->Quiet nb h h'->nb<=h'.next->k v h':=by
 rintro _ h' rfl hq hn
 by_cases hp:p
 ·simp only[hp,if_true];exact ht hp h' hq hn
 ·simp only[hp,if_false];exact hf hp h' hq hn
theorem AB {X:Value}(hr:∀h',Quiet nb h h'->nb<=h'.next->k X h'):∀v h',v=X->Quiet nb h h'->nb<=h'.next->k v h':=by
 rintro _ h' rfl hq hn
 exact hr h' hq hn
theorem Vi {R:Value->H->Prop}(hc:∃v h',R v h'/\Eg P fv lo h args v h') (hr:∀v h',R v h'->Quiet lo h h'->k v h'):V5 P fv lo false h args k:=by
 obtain⟨v,h',r,a⟩:=hc
 exact .mk a (hr v h' r a.quiet)
theorem En {R:Value->H->Prop}(hc:AW P fn lo h as_ R) (hr:∀v h',R v h'->Quiet lo h h'->k v h'):Ov P fn lo false h fv args as_ k:=by
 obtain⟨v,h',r,a⟩:=hc
 exact .mk a (hr v h' r a.quiet)
end
theorem fQ {a i j:Nat}(e:Nat.beq i j=false):a+i≠a+j:=fun h=>by
 have:=Nat.add_left_cancel h
 subst this
 simp at e
theorem Vp {a j:Nat}(e:Nat.beq 0 j=false):a≠a+j:=fun h=>by
 have:0=j:=by omega
 subst this
 simp at e
theorem bU {a j:Nat}(e:Nat.beq 0 j=false):a+j≠a:=fun h=>Vp e h.symm
theorem fP {a b i n j:Nat}(h:a+n<=b) (e:Nat.ble (i+1) n=true):a+i≠b+j:=by
 have:=Nat.le_of_ble_eq_true e
 omega
theorem bT {a b n j:Nat}(h:a+n<=b) (e:Nat.ble 1 n=true):a≠b+j:=by
 have:=Nat.le_of_ble_eq_true e
 omega
theorem Dj.val {P:Program}{lo Av:Nat}{ts:Ts}{h:H}{ao:Bn}{k:Value->H->Prop}{v0 v:Value}(ha:BZ P lo Av ts h ao=some (v0,h)) (hv:v0=v) (hk:k v h):Dj P lo Av ts h ao k:=by
 subst hv;exact .mk ha hk
theorem Dj.pure {P:Program}{lo Av:Nat}{ts:Ts}{h:H}{k:Value->H->Prop}{o:Oper}(v:Value) (ha:EJ P ts o=some v) (hk:k v h):Dj P lo Av ts h (.pure o) k:=
 .mk (v:=v) (h':=h) (by simp[BZ,keep,ha]) hk
theorem Ix.nat {b:Option Addr}{n m:Nat}{k:Addr->Nat->Prop}{a:Addr}(hb:b=some a) (hm:m<n) (hk:k a m):Ix b n (m:Int) k:=.mk hb rfl hm hk
theorem Ix.pW {b:Option Addr}{n m:Nat}{k:Addr->Nat->Prop}{a:Addr}(hb:0<n->b=some a) (hm:m<n) (hk:k a m):Ix b n (m:Int) k:=.mk (hb (by omega)) rfl hm hk
theorem Ix.int {b:Option Addr}{n:Nat}{z:Int}{k:Addr->Nat->Prop}{a:Addr}(hb:b=some a) (h0:0<=z) (hm:z<n) (hk:k a z.toNat):Ix b n z k:=.mk hb (by omega) (by omega) hk
theorem Ix.ql {b:Option Addr}{n:Nat}{z:Int}{k:Addr->Nat->Prop}{a:Addr}(hb:0<n->b=some a) (h0:0<=z) (hm:z<n) (hk:k a z.toNat):Ix b n z k:=.mk (hb (by omega)) (by omega) (by omega) hk
theorem Ix.lit {b:Option Addr}{n m:Nat}{z:Int}{k:Addr->Nat->Prop}{a:Addr}(e:z.toNat=m) (hb:0<n->b=some a) (h0:0<=z) (hm:z<n) (hk:k a m):Ix b n z k:=.mk (hb (by omega)) (by omega) (by omega) hk
theorem Ix.pred {b:Option Addr}{n m:Nat}{k:Addr->Nat->Prop}{a:Addr}(hb:0<n->b=some a) (h0:1<=m) (hm:m<=n) (hk:k a (m - 1)):Ix b n ((m:Int) - 1) k:=.mk (hb (by omega)) (by omega) (by omega) hk
theorem Ix.succ {b:Option Addr}{n m:Nat}{k:Addr->Nat->Prop}{a:Addr}(hb:0<n->b=some a) (hm:m+1<n) (hk:k a (m+1)):Ix b n ((m:Int)+1) k:=.mk (hb (by omega)) rfl hm hk
theorem aQ.lit {n m:Nat}{z:Int}{k:Nat->Prop}(e:z.toNat=m) (h0:0<=z) (hm:z<n) (hk:k m):aQ n z k:=.mk (by omega) (by omega) hk
theorem aQ.nat {n m:Nat}{k:Nat->Prop}(hm:m<n) (hk:k m):aQ n (m:Int) k:=.mk rfl hm hk
theorem aQ.int {n:Nat}{z:Int}{k:Nat->Prop}(h0:0<=z) (hm:z<n) (hk:k z.toNat):aQ n z k:=.mk (by omega) (by omega) hk
end AE

/- Closing steps of a walk, each found by tactic. -/
namespace AE
open Go
theorem Ae {G:Prop}(g:G:=by(((try simp only[Dv,C0,Nat.add_assoc,Nat.reduceAdd]);exact rfl))):G:=g
theorem mH {G:Prop}(g:G:=by(first|exact Nat.add_lt_add_left (Nat.le_of_ble_eq_true rfl) _|omega)):G:=g
theorem rz {G:Prop}(g:G:=by(first|exact fQ rfl|exact Vp rfl|exact bU rfl|exact fP (by assumption) rfl|exact bT (by assumption) rfl|omega)):G:=g
theorem AK {G:Prop}(g:G:=by(first|exact Nat.le_refl _|exact Nat.le_add_right _ _|omega)):G:=g
theorem mG {G:Prop}(g:G:=by(((try simp only[Nat.add_zero,Nat.add_assoc,Nat.reduceAdd]);exact rfl))):G:=g
theorem mE {G:Prop}(g:G:=by(((try dsimp only[BB])<;>exact rfl))):G:=g
theorem eB {G:Prop}(g:G:=by(((conv=>lhs;simp only[Int.reduceToNat])<;>exact rfl))):G:=g
theorem jf {G:Prop}(g:G:=by(first|exact JL (by omega)|exact wrap_u64 (by omega)|exact wrap_u32 (by omega))):G:=g
theorem Aa {G:Prop}(g:G:=by(((try dsimp only[BB]);(repeat(first|assumption|exact Qn rfl|((with_reducible apply YH);focus exact rz)|with_reducible apply XD|((with_reducible apply TS);(focus assumption);focus exact mH)|exact Qn (by omega)|((with_reducible apply Yw);(focus assumption);focus exact mH)));(first|done|fail)))):G:=g
theorem mF {G:Prop}(g:G:=by(((repeat(first|assumption|(apply Ints.at<;>first|assumption|omega)|(apply Ro.at<;>first|assumption|omega)|(apply XM.at<;>first|assumption|omega)|((with_reducible apply bH);focus(dsimp only[BB];omega))|with_reducible apply ah|((with_reducible apply WJ);(focus assumption);focus(dsimp only[BB];omega))|((with_reducible apply Yv);(focus assumption);focus(dsimp only[BB];omega))));(first|done|fail)))):G:=g
theorem S7 {G:Prop}(g:G:=by(((conv=>lhs;whnf)<;>exact rfl))):G:=g
theorem Q0 {G:Prop}(g:G:=by(((repeat((conv=>arg 1;whnf);first|exact Is.nil|(apply Is.cons;focus exact S7)|exact Is.rfl));(first|done|fail)))):G:=g
theorem dn {G:Prop}(g:G:=by(((repeat(first|exact Apart.nil|(apply Apart.cons;(focus exact rfl);(focus exact rfl);(focus((try dsimp only[BB]);omega)))));(first|done|fail)))):G:=g
theorem QZ {G:Prop}(g:G:=by(first|omega|exact dn)):G:=g
theorem ag {G:Prop}(g:G:=by(first|(apply FR;(focus exact Aa);(focus exact rfl);(first|done|fail))|(apply B6;(focus exact Aa);(focus exact rfl);(first|done|fail))|exact mF)):G:=g
theorem mI {G:Prop}(g:G:=by((simp only[List.length_cons,List.length_nil,Nat.reduceAdd];exact rfl))):G:=g
theorem AO {G:Prop}(g:G:=by(((repeat(first|exact Same.refl _ _|assumption|(apply Same.mono;(focus assumption);(focus omega))|((with_reducible apply Same.put);rotate_left;focus omega)|with_reducible apply Same.bump|((with_reducible apply Same.quiet);rotate_left;(focus assumption);(focus omega))));(first|done|fail)))):G:=g
theorem Fj {G:Prop}(g:G:=by(((repeat(first|exact Quiet.refl _ _|assumption|((with_reducible apply Quiet.put');rotate_left;(focus omega);(focus(simp only[Dv,C0];omega)))|with_reducible apply Quiet.mK|((with_reducible apply Quiet.trans');rotate_left;(focus assumption);(focus omega))));(first|done|fail)))):G:=g
theorem Ag {G:Prop}(g:G:=by(first|omega|((try simp only[Dv,C0]at*);omega))):G:=g
theorem XC {G:Prop}(g:G:=by(first|((with_reducible apply Qr);focus exact S7)|((with_reducible apply bP);(focus exact rfl);(focus exact rfl);(focus exact rfl);(focus exact Aa);(focus exact rfl);(focus exact Q0))|((with_reducible apply bO);(focus exact rfl);(focus exact rfl);(focus exact Aa);(focus exact rfl);(focus exact S7)))):G:=g
theorem Aw {G G':Prop}(g:G') (t:G'->G:=by(first|((with_reducible apply Start.mk);(focus exact Ae);(focus exact mI))|((with_reducible apply New.mk);(focus exact mG))|((with_reducible apply Need.mk);(focus exact QZ))|((with_reducible apply jM.ok);(focus exact QZ))|((with_reducible apply nG.nn);(focus exact QZ))|((with_reducible apply nD.nn);(focus exact QZ))|((with_reducible apply eJ.mk);(focus exact ag);(focus exact S7))|((with_reducible apply eI.mk);(focus exact ag);(focus exact Q0))|((with_reducible apply jw.mk);(focus exact mE);(focus exact AK);(focus exact Aa);(focus exact rfl);(focus exact rfl);(focus exact rfl);(focus exact Q0))|((with_reducible apply Ix.nat);(focus exact rfl);(focus omega))|((with_reducible apply Ix.pW);(focus assumption);(focus omega))|((with_reducible apply Ix.succ);(focus first|assumption|exact fun _=>rfl);(focus omega))|((with_reducible apply Ix.pred);(focus first|assumption|exact fun _=>rfl);(focus omega);(focus omega))|((with_reducible apply Ix.lit);(focus exact eB);(focus first|assumption|exact fun _=>rfl);(focus omega);(focus omega))|((with_reducible apply Ix.int);(focus exact rfl);(focus omega);(focus omega))|((with_reducible apply Ix.ql);(focus assumption);(focus omega);(focus omega))|((with_reducible apply aQ.nat);(focus omega))|((with_reducible apply aQ.lit);(focus exact eB);(focus omega);(focus omega))|((with_reducible apply aQ.int);(focus omega);(focus omega))|((with_reducible apply Wrap.mk);(focus exact jf))|((with_reducible apply Dj.val);(focus exact rfl);(focus exact S7))|apply XB|apply Ut|apply Uv)):G:=t g
theorem Ey {p:Prop}{nb:Nat}{h:H}{k:Value->H->Prop}{inst:Decidable p}(ht:∀h',Quiet nb h h'->nb<=h'.next->p->k (.bool true) h') (hf:∀h',Quiet nb h h'->nb<=h'.next->¬p->k (.bool false) h'):∀v h',v= .bool (decide p)->Quiet nb h h'->nb<=h'.next->k v h':=by
 rintro _ h' rfl q n
 by_cases hp:p
 ·rw[decide_eq_true hp];exact ht h' q n hp
 ·rw[decide_eq_false hp];exact hf h' q n hp
theorem AA {G G':Prop}(g:G') (t:G'->G:=by(first|(apply qX;(focus first|exact .inl rfl|exact .inr rfl);focus exact XC)|(apply qW;(focus first|exact .inl rfl|exact .inr rfl);(focus exact XC);(focus exact XC))|(apply qV;(focus first|exact .inl rfl|exact .inr rfl);(focus exact XC);(focus exact XC);(focus exact XC))|(apply qY;(focus first|exact .inl rfl|exact .inr rfl)))):G:=t g
end AE

/- From what a law's function comes to over the abstract heap, to what it comes to in a world: arguments that came in. -/
namespace AE
open Go Go.RowKit Go.ChangeShapes Go.WideShapes Go.ChangeAt

theorem AW.law {P:Program}{f:FuncId}{h:H}{args:List Value}{I:Al}{W:World}(aw:AW P f h.next h args (fun v _=>v= .bool true)) (k:Rel I h W) (hb:I.base=W.heap.size) (ia:BH I args):
 Calls P f ⟨Ah I args⟩ W fun e w'=>e= .returned (.bool true)/\Below W.heap.size W w':=by
 obtain⟨v,h',rfl,a⟩:=aw
 refine(a.calls I W k ia).mono ?_
 rintro e w' ⟨J,W1, -,rfl⟩
 refine⟨by simp[ren],⟨W1.ext.os,W1.ext.tape,W1.ext.output,W1.ext.size,fun b hlt=>W1.ext.block b hlt fun r s d _ hbase=>by omega⟩⟩

def Zr (W:World):Al:=⟨fun _ _=>none,fun _ _=>0,W.heap.size⟩
theorem oM (W:World) (ht:I7 W.heap.size W):Rel (Zr W) H.empty W:=
 ⟨fun r row h=>by simp[H.empty]at h,fun r ⟨s,p,e⟩=>by simp[Zr]at e,fun r s b d e=>by simp[Zr]at e,Nat.le_refl _,ht,fun r r' s s' b d d' e=>by simp[Zr]at e,fun _ _=>rfl⟩

def Al.lay (I:Al) (r b d:Nat):Al:=⟨fun r' s'=>if r'=r/\s'=none then some (b,d)else I.at_ r' s',I.cap,I.base⟩
theorem Al.Uf (I:Al) (r b d:Nat):(I.lay r b d).at_ r none=some (b,d):=by simp[Al.lay]
end AE

/- Slices that are made, grown within their capacity, copied; structs compared. -/
namespace AE
open Go
section
variable {P:Program}{lo Av:Nat}{ts:Ts}{h h':H}{k:Value->H->Prop}
theorem O1 {z:List Value}{bytes a b:Nat}{e:TypeId}{l c:AP}{k1 k2:IntKind}(hl:ev ts l= .int k1 (a:Int)) (hc:ev ts c= .int k2 (b:Int)) (hle:a<=b) (hsm:(b+1) * (bytes+1)<=1099511627776)
 (hr:k (.slice (some ⟨Av,0,none⟩) a b) (h.put (Av) (.cells (Gk z b) e))):Dj P lo Av ts h (.FJ z bytes e l c) k:=
 Dj.mk (by
  have h1:Cv (ev ts l)=some a:=by rw[hl];simp[Cv]
  have h2:Cv (ev ts c)=some b:=by rw[hc];simp[Cv]
  simp only[BZ,h1,h2,GR]
  rw[if_pos ⟨hle,hsm⟩]) hr
def intCells (f:Nat->Int) (n:Nat):List Value:=(List.range n).map fun i=>Value.int .i64 (f i)
theorem HY (f:Nat->Int) (n:Nat):(intCells f n).length=n:=by simp[intCells]
theorem QG (f:Nat->Int) (n i:Nat) (hi:i<n):(intCells f n)[i]? =some (.int .i64 (f i)):=by simp[intCells,hi]
theorem Ints.row {r:Nat}{e:TypeId}{f:Nat->Int}{n:Nat}(hget:h.get r=some (.cells (intCells f n) e)):Ints h ⟨r,0,none⟩ n f:=fun i hi=>
 FR (c:=intCells f n) hget (by show(intCells f n)[0+i]? =_;rw[Nat.zero_add];exact QG f n i hi)
theorem bA {row:A9}{off n:Nat}{s:Option Nat}{l:List Value}(hl:Br off n row s=some l):l.length=n:=by
 have hcut:∀{c:List Value},cut c off n=some l->l.length=n:=fun{c} h=>by
  unfold cut at h
  split at h
  ·simp at h;subst h;simp;omega
  ·simp at h
 cases row<;>cases s<;>simp only[Br]at hl<;>first|exact hcut hl|(split at hl<;>first|exact hcut hl|simp at hl)|simp at hl
theorem SX {c l:List Value}{off n:Nat}{v:Value}(h1:cut c off n=some l) (h2:cut c (off+n) 1=some [v]):cut c off (n+1)=some (l++[v]):=by
 unfold cut at*
 split at h1
 ·split at h2
  ·rename_i a b
   simp only[Option.some.injEq]at h1 h2
   rw[if_pos (by omega),<-h1,<-h2,List.take_add]
   simp[List.drop_drop]
  ·simp at h2
 ·simp at h1
theorem Qx {row:A9}{off n:Nat}{s:Option Nat}{l:List Value}{v:Value}(h1:Br off n row s=some l) (h2:Br (off+n) 1 row s=some [v]):Br off (n+1) row s=some (l++[v]):=by
 cases row<;>cases s<;>simp only[Br]at h1 h2⊢<;>first
  |exact SX h1 h2
  | (split at h1
     ·split at h2
      ·rename_i a b
       rw[if_pos ⟨a.1,a.2.1,by omega⟩]
       exact SX h1 h2
      ·simp at h2
     ·simp at h1)
  |simp at h1
theorem Ints.all {a:Addr}{f:Nat->Int}{n:Nat}(hi:Ints h a n f) (h0:0<n):∀k,0<k->k<=n->h.Az a k=some (intCells f k)
 |0,hk,_=>by omega
 | 1,_,hn=>by
   have:=hi 0 h0
   simpa[intCells,BB]using this
 | k +2,_,hn=>by
   have ih:=hi.all h0 (k+1) (by omega) (by omega)
   have hs:=hi (k+1) (by omega)
   unfold H.Az at*
   cases hrow:h.get a.block with
   |none=>rw[hrow]at ih;simp at ih
   | some row=>
     rw[hrow]at ih
     simp only[BB,hrow,Option.bind_some]at ih hs⊢
     rw[Qx ih hs]
     simp[intCells,List.range_succ]
theorem bG {r n cd cs:Nat}{e:TypeId}{dd s:AP}{b:Option Addr}{a:Addr}{c:List Value}{f:Nat->Int}(hd:ev ts dd= .slice (some ⟨r,0,none⟩) n cd) (hs:ev ts s= .slice b n cs) (hb:0<n->b=some a) (hi:Ints h a n f) (hn:0<n)
 (hget:h.get r=some (.cells c e)) (hlen:c.length=n) (hlo:lo<=r) (gL:cd<far) (hfs:cs<far) (hr:k (.int .i64 n) (h.put r (.cells (intCells f n) e))):Dj P lo Av ts h (.copy 1 dd s) k:=
 Dj.mk (by
  obtain rfl:=hb hn
  have hall:=hi.all hn n hn (Nat.le_refl _)
  have hone:(intCells f n).all Value.oneCell'=true:=by simp[intCells,Value.oneCell']
  have hst:h.Df lo ⟨r,0,none⟩ (intCells f n)=some (h.put r (.cells (intCells f n) e)):=by
   unfold H.Df
   rw[if_pos ⟨hlo,hone⟩]
   have hsp:splice c 0 (intCells f n)=intCells f n:=by
    unfold splice
    rw[HY]
    simp[hlen]
   simp[hget,Cw,HY,hlen,hsp]
  have hn0:n≠0:=by omega
  simp[BZ,LZ,hd,hs,Eh,Ca,hall,hn0,hst,Nat.not_le.2 gL,Nat.not_le.2 hfs]) hr
end
theorem Nb {xs ys:List Value}{off:Nat}(h:off+ys.length<=xs.length):(splice xs off ys).length=xs.length:=by
 unfold splice;simp;omega
end AE

/- Comparisons of structs of integers. -/
namespace AE
open Go

theorem Cm {P:Program}{t:TypeId}{d:TypeDesc}(h:P.underlying t=some d):Au P (underlying t)=some d:=by
 unfold underlying
 simp only[AL]
 show((some P).bind _)=_
 simp only[Option.bind_some,h]
 rfl
theorem d9 {P:Program}{t:TypeId}{k:IntKind}(ht:P.underlying t=some (.int k)) (d:Nat) (a b:Int):Au P (Op.equalIn (d+1) t (.int k a) (.int k b))=some (a==b):=by
 unfold Op.equalIn
 simp only[AL,Cm ht,Option.bind_some,if_true]
 rfl
theorem Ep (P:Program):Au P program=some P:=rfl
theorem B1 {α:Type}(P:Program) (x:α):Au P (pure x:Sem α)=some x:=rfl
theorem V6 {P:Program}{ts:Ts}{o:Oper}{t:TypeId}{x y:Operand}{c:TypeId}(ho:o.op= .binOp .neq t x y c) {A B:Array Value}(hx:Ii ts x= .agg A) (hy:Ii ts y= .agg B) (fa:flat (.agg A)=true) (fb:flat (.agg B)=true)
 (hg:P.eqGuardType P.depth t=false) {b:Bool} (he:Au P (Op.equalIn Op.maxDepth t (.agg A) (.agg B))=some b):EJ P ts o=some (.bool (!b)):=by
 have ops:o.op.operands.toList=[x,y]:=by rw[ho];rfl
 unfold EJ
 rw[ops]
 simp only[List.all_cons,List.all_nil,hx,hy,fa,fb,Bool.and_true,if_true]
 unfold execOp
 rw[ho]
 simp only[hx,hy,AL]
 have g:Au P (eqGuard .neq t x y (.agg A) (.agg B))=some ():=by
  unfold eqGuard
  simp only[AL,Ep,Option.bind_some,hg,Bool.not_true,Bool.not_false,Bool.false_eq_true,if_false,if_true,B1]
 have e:Au P (binOp .neq t (.agg A) (.agg B))=some (.bool (!b)):=by
  unfold binOp
  simp only[Op.equal,AL,he,Option.bind_some]
  rfl
 rw[g]
 simp only[Option.bind_some]
 rw[e]
 rfl
end AE

/- Comparisons of structs and arrays of numbers and truth values, of any shape. -/
set_option linter.unusedVariables false
namespace AE
open Go

variable {P:Program}

theorem OC {t:TypeId}{b:Bool}(h:BU P t=some b):Au P (isAgg t)=some b:=by
 unfold BU at h
 unfold isAgg
 simp only[AL]
 cases hu:P.underlying t with
 |none=>rw[hu]at h;simp at h
 | some d=>
   rw[Cm hu,Option.bind_some]
   rw[hu]at h
   cases d<;>simp at h<;>subst h<;>rfl
theorem IA {t:TypeId}{n:Nat}(h:sizeT P t=some n):Au P (Go.sizeOf t)=some n:=by
 unfold sizeT at h
 simp only[Option.map_eq_some_iff]at h
 obtain⟨i,hi,rfl⟩:=h
 unfold Go.sizeOf typeInfo
 simp only[AL]
 show(((some P).bind _).bind _)=_
 simp only[Option.bind_some,hi]
 rfl

def KZ (agg:Bool) (cs:List Value):Value:=if agg then .agg ⟨cs⟩else(cs[0]?).getD undef

def PartOf (P:Program) (e:TypeId) (agg:Bool) (cs:List Value) (off:Nat) (x:List Value):Prop:=
 BU P e=some agg/\if agg then(∃s,sizeT P e=some s/\cut cs off s=some x)else∃v,cs[off]? =some v/\x=[v]

theorem PartOf.run {e:TypeId}{agg:Bool}{cs x:List Value}{off:Nat}(h:PartOf P e agg cs off x):Au P (part e ⟨cs⟩ off)=some (KZ agg x):=by
 obtain⟨h1,h2⟩:=h
 unfold part
 simp only[AL,OC h1,Option.bind_some]
 cases agg
 ·simp only[Bool.false_eq_true,if_false]at h2⊢
  obtain⟨v,hv,rfl⟩:=h2
  have:(⟨cs⟩:Array Value)[off]? =some v:=by simpa using hv
  rw[this]
  rfl
 ·simp only[if_true]at h2⊢
  obtain⟨s,hs,hc⟩:=h2
  obtain⟨hl,rfl⟩:=Gb hc
  simp only[AL,IA hs,Option.bind_some,KZ,if_true]
  have:(⟨cs⟩:Array Value).extract off (off+s)=⟨(cs.drop off).take s⟩:=by
   apply Array.ext'
   simp[List.take_drop]
  rw[this]
  rfl

def mM (f:Nat->Bool) (n:Nat):Bool:=(List.range n).all f

mutual
inductive Rm (P:Program):Nat->TypeId->Bool->List Value->List Value->Bool->Prop
 |int {n:Nat} {t:TypeId} {k:IntKind} {a b:Int} (ht:P.underlying t=some (.int k)):Rm P (n+1) t false [.int k a] [.int k b] (a==b)
 |bool {n:Nat} {t:TypeId} {a b:Bool} (ht:P.underlying t=some .bool):Rm P (n+1) t false [.bool a] [.bool b] (a==b)
 |struct {n:Nat} {t:TypeId} {fs:Array Field} {xs ys:List Value} {b:Bool} (ht:P.underlying t=some (.struct fs)) (hs:P.stoodInHeld t=false) (h:K4 P n fs.toList xs ys b):Rm P (n+1) t true xs ys b
 |arr {n:Nat} {t e:TypeId} {m s:Nat} {agg:Bool} {xs ys:List Value} {x y:Nat->List Value} {f:Nat->Bool} (ht:P.underlying t=some (.array m e)) (hs:sizeT P e=some s) (hx:∀i,i<m->PartOf P e agg xs (i*s) (x i)) (hy:∀i,i<m->PartOf P e agg ys (i*s) (y i))
  (h:∀i,i<m->Rm P n e agg (x i) (y i) (f i)):Rm P (n+1) t true xs ys (mM f m)
inductive K4 (P:Program):Nat->List Field->List Value->List Value->Bool->Prop
 |nil {n:Nat} {xs ys:List Value}:K4 P n [] xs ys true
 |cons {n:Nat} {f:Field} {fs:List Field} {agg:Bool} {xs ys x y:List Value} {b c:Bool} (hn:f.name≠ "_") (hx:PartOf P f.type agg xs f.offset x) (hy:PartOf P f.type agg ys f.offset y) (h:Rm P n f.type agg x y b) (r:K4 P n fs xs ys c):K4 P n (f::fs) xs ys (b&&c)
end

theorem Rm.run:∀(n:Nat) {t:TypeId}{agg:Bool}{xs ys:List Value}{b:Bool},Rm P n t agg xs ys b->∀d,n<=d->Au P (Op.equalIn d t (KZ agg xs) (KZ agg ys))=some b:=by
 intro n
 induction n with
 |zero=>intro t agg xs ys b h;cases h
 | succ n ih=>
   intro t agg xs ys b h d hd
   obtain⟨d,rfl⟩:∃d',d=d'+1:=⟨d - 1,by omega⟩
   cases h with
   | int ht=>
     simp only[KZ,Bool.false_eq_true,if_false,List.getElem?_cons_zero,Option.getD_some]
     exact d9 ht d _ _
   | bool ht=>
     simp only[KZ,Bool.false_eq_true,if_false,List.getElem?_cons_zero,Option.getD_some]
     unfold Op.equalIn
     simp only[AL,Cm ht,Option.bind_some]
     rfl
   | struct ht hs h=>
     rename_i fs
     simp only[KZ,if_true]
     unfold Op.equalIn
     simp only[AL,Cm ht,Option.bind_some,Ep,hs,Bool.false_eq_true,if_false]
     have e:fs=fs.toList.toArray:=rfl
     rw[e]
     simp only[List.forIn_toArray]
     generalize fs.toList=l at h
     have key:∀(l:List Field) (b:Bool),K4 P n l xs ys b->Au P (forIn l ((none,()):Option Bool × Unit) fun f _=>
      if f.name≠ "_" then do
       let x<-part f.type ⟨xs⟩ f.offset
       let y<-part f.type ⟨ys⟩ f.offset
       let q<-Op.equalIn d f.type x y
       if(!q)=true then pure (ForInStep.done (some false,()))else pure (ForInStep.yield (none,()))
      else pure (ForInStep.yield (none,())))=some (if b then none else some false,()):=by
      intro l
      induction l with
      |nil=>intro b h;cases h;rfl
      | cons f l ihl=>
        intro b h
        cases h with
        | cons hn hx hy h r=>
          rename_i agg x y b c
          have he:=ih h d (by omega)
          simp only[List.forIn_cons,AL,hn,ne_eq,not_false_eq_true,if_true,hx.run,hy.run,he,Option.bind_some]
          cases b
          ·simp[B1]
          ·simp only[Bool.not_true,Bool.false_eq_true,if_false,B1,Option.bind_some,Bool.true_and]
           exact ihl c r
     rw[key l b h]
     cases b<;>rfl
   | arr ht hs hx hy h=>
     rename_i e m s agg x y f
     simp only[KZ,if_true]
     unfold Op.equalIn
     simp only[AL,Cm ht,Option.bind_some,IA hs,Std.Legacy.Range.forIn_eq_forIn_range']
     have key:∀(k i:Nat),i+k=m->Au P (forIn (List.range' i k) ((none,()):Option Bool × Unit) fun i _=>do
      let x<-part e ⟨xs⟩ (i*s)
      let y<-part e ⟨ys⟩ (i*s)
      let q<-Op.equalIn d e x y
      if(!q)=true then pure (ForInStep.done (some false,()))else pure (ForInStep.yield (none,())))=some (if(List.range' i k).all f then none else some false,()):=by
      intro k
      induction k with
      |zero=>intro i _;rfl
      | succ k ihk=>
        intro i hi
        have he:=ih (h i (by omega)) d (by omega)
        simp only[List.range'_succ,List.forIn_cons,AL,(hx i (by omega)).run,(hy i (by omega)).run,he,Option.bind_some,List.all_cons]
        cases f i
        ·simp[B1]
        ·simp only[Bool.not_true,Bool.false_eq_true,if_false,B1,Option.bind_some,Bool.true_and]
         exact ihk (i+1) (by omega)
     have hk:=key m 0 (by omega)
     simp only[Std.Legacy.Range.size,Nat.sub_zero,Nat.add_sub_cancel,Nat.div_one]
     rw[hk]
     unfold mM
     rw[List.range_eq_range']
     cases(List.range' 0 m).all f<;>rfl

end AE

/- Long rows of cells, part by part: arrays of arrays. -/
set_option linter.unusedVariables false
namespace AE
open Go Go.RowKit

def rowsOf (g:Nat->List Value):Nat->List Value
 |0=>[]
 |n+1=>rowsOf g n++g n

theorem FY {g:Nat->List Value}{w:Nat}(hg:∀i,(g i).length=w):∀n,(rowsOf g n).length=n*w
 |0=>by simp[rowsOf]
 |n+1=>by simp[rowsOf,FY hg n,hg,Nat.succ_mul]

theorem VQ {α:Type}{p m s:List α}{a n:Nat}(hp:p.length=a) (hm:m.length=n):cut (p++m++s) a n=some m:=by
 subst hp;subst hm
 simp[cut]
theorem TA {α:Type}{p m m' s:List α}{a:Nat}(hp:p.length=a) (hm:m'.length=m.length):splice (p++m++s) a m'=p++m'++s:=by
 subst hp
 simp only[splice,hm]
 congr 1
 ·congr 1
  simp[List.take_append_of_le_length]
 ·rw[List.drop_append_of_le_length (by simp)]
  rw[List.drop_eq_nil_of_le (by simp)]
  rfl

theorem Kq {g:Nat->List Value}{w:Nat}(hg:∀i,(g i).length=w):∀{n i:Nat},i<n->∃p s,p.length=i*w/\rowsOf g n=p++g i++s/\∀g':Nat->List Value,(∀j,j≠i->g' j=g j)->rowsOf g' n=p++g' i++s:=by
 intro n
 induction n with
 |zero=>intro i h;omega
 | succ n ih=>
   intro i h
   by_cases hin:i=n
   ·subst hin
    refine⟨rowsOf g i,[],FY hg i,by simp[rowsOf],fun g' hg'=>?_⟩
    have:∀k,k<=i->rowsOf g' k=rowsOf g k:=by
     intro k
     induction k with
     |zero=>intro _;rfl
     |succ k ihk=>intro hk;simp only[rowsOf];rw[ihk (by omega),hg' k (by omega)]
    simp[rowsOf,this i (Nat.le_refl _)]
   ·obtain⟨p,s,hp,h1,h2⟩:=ih (i:=i) (by omega)
    refine⟨p,s++g n,hp,by simp[rowsOf,h1],fun g' hg'=>?_⟩
    simp[rowsOf,h2 g' hg',hg' n (fun e=>hin e.symm)]

theorem HM {g:Nat->List Value}{w:Nat}(hg:∀i,(g i).length=w) {n i a:Nat}(hi:i<n) (pre post:List Value) (ha:a=pre.length+i*w):cut (pre++rowsOf g n++post) a w=some (g i):=by
 obtain⟨p,s,hp,h1, -⟩:=Kq hg hi
 rw[h1,show pre++(p++g i++s)++post=(pre++p)++g i++(s++post) by simp]
 exact VQ (by simp[hp,ha]) (hg i)

def Yc (g:Nat->List Value) (i:Nat) (v:List Value):Nat->List Value:=fun j=>if j=i then v else g j

theorem Oz {g:Nat->List Value}{w:Nat}(hg:∀i,(g i).length=w) {n i a:Nat}(hi:i<n) (pre post v:List Value) (hv:v.length=w) (ha:a=pre.length+i*w):
 splice (pre++rowsOf g n++post) a v=pre++rowsOf (Yc g i v) n++post:=by
 obtain⟨p,s,hp,h1,h2⟩:=Kq hg hi
 rw[h1,h2 (Yc g i v) (fun j hj=>by simp[Yc,hj]),show pre++(p++g i++s)++post=(pre++p)++g i++(s++post) by simp,TA (by simp[hp,ha]) (by rw[hv,hg])]
 simp[Yc]

theorem MN {α:Type}{l m x:List α}{a n b k:Nat}(h:cut l a n=some m) (h':cut m b k=some x):cut l (a+b) k=some x:=by
 obtain⟨h1,rfl⟩:=Gb h
 obtain⟨h2,rfl⟩:=Gb h'
 simp only[List.length_take,List.length_drop]at h2
 have:a+b+k<=l.length:=by omega
 simp only[cut,this,if_true,Option.some.injEq]
 rw[List.drop_take,List.take_take,List.drop_drop,Nat.min_eq_left (by omega)]

end AE

/- Slices that grow by appends. -/
set_option linter.unusedVariables false
namespace AE
open Go

structure Grown (b N:Nat) (h:H) (e:TypeId) (sz n:Nat) (cs:List Value) (v:Option Addr):Prop where
 len:cs.length=n*sz
 is:(n=0/\v=none)\/∃r g lens valid,v=some ⟨r,0,some g⟩/\b<=r/\r<N/\h.get r=some (.grow cs e sz lens valid)/\valid<=g/\g+1=lens.length/\Ea lens g=cs.length/\0<n

theorem Grown.nil {b N:Nat}{h:H}{e:TypeId}{sz:Nat}:Grown b N h e sz 0 [] none:=⟨by simp,.inl ⟨rfl,rfl⟩⟩
theorem Grown.frame {b N N':Nat}{h h':H}{e:TypeId}{sz n:Nat}{cs:List Value}{v:Option Addr}(G:Grown b N h e sz n cs v) (hN:N<=N') (hs:∀r,b<=r->r<N->h'.get r=h.get r):Grown b N' h' e sz n cs v:=by
 refine⟨G.len,?_⟩
 rcases G.is with⟨h0,hv⟩|⟨r,g,lens,valid,hv,h1,h2,h3,h4⟩
 ·exact .inl ⟨h0,hv⟩
 ·exact .inr ⟨r,g,lens,valid,hv,h1,by omega,by rw[hs r h1 h2];exact h3,h4⟩
theorem Ac {α:Type}{a b:Option α}(f:∀y,b=y->a=y):a=b:=f _ rfl
theorem D6 {α:Type}{a b:Option α}(g:a=b:=by exact Ac fun y hy=>Aa):a=b:=g
theorem Lu (l:Nat) (lens:List Nat):Ea (l::lens) lens.length=l:=by simp[Ea]

def Cells (h:H) (sz m:Nat) (x:Value) (nc:List Value):Prop:=Eh x=some m/\(0<m->Ca h sz m x=some nc)/\nc.length=m*sz/\nc.all Value.oneCell'=true
theorem Cells.one {h:H}{sz c:Nat}{a:Addr}{nc:List Value}(ha:h.Az a (1*sz)=some nc) (hc:c<far) (hl:nc.length=sz) (ho:nc.all Value.oneCell'=true):Cells h sz 1 (.slice (some a) 1 c) nc:=
 ⟨rfl,fun _=>by simp only[Ca];rw[if_neg (by omega)];exact ha,by simpa using hl,ho⟩

section
variable {P:Program}{lo Av:Nat}{ts:Ts}{h h':H}{k:Value->H->Prop}
theorem Grown.new {b N:Nat}{e:TypeId}{sz n:Nat}{nc:List Value}(hb:b<=Av) (hN:Av<N) (hl:nc.length=n*sz) (h0:0<n):Grown b N (h.put Av (.grow nc e sz [nc.length] 0)) e sz n nc (some ⟨Av,0,some 0⟩):=
 ⟨hl,.inr ⟨Av,0,[nc.length],0,rfl,hb,hN,by simp[H.put],by omega,rfl,by simp[Ea],h0⟩⟩

structure Full (h:H) (sz n:Nat) (cs:List Value) (v:Option Addr) (c:Nat):Prop where
 len:cs.length=n*sz
 is:(n=0/\((v=none/\c=0)\/∃a,v=some a/\c=far))\/∃a,v=some a/\c<far/\(a.spot=none/\c=n\/(∃g,a.spot=some g)/\c=2*n+1)/\h.Az a (n*sz)=some cs

theorem TT {e:TypeId}{sz bytes n m b:Nat}{s x:AP}{cs nc:List Value}{w:Option Addr}{c:Nat}(hsv:ev ts s= .slice w n c) (G:Full h sz n cs w c) (C:Cells h sz m (ev ts x) nc) (hm:0<m) (hb:b<=Av) (hsm:(n+m+1) * (bytes+1)<=1099511627776)
 (hr:∀v row,Grown b (Av+1) (h.put Av row) e sz (n+m) (cs++nc) v->k (.slice v (n+m) 0) (h.put Av row)):Dj P lo Av ts h (.append e sz bytes s x) k:=by
 obtain⟨c1,c2,c3,c4⟩:=C
 have c2:=c2 hm
 have hm0:¬m=0:=by omega
 have hl:(cs++nc).length=(n+m) *sz:=by rw[List.length_append,G.len,c3,Nat.add_mul]
 have hs1:small (n+m) bytes:=by unfold small;omega
 have hs2:small n bytes:=by
  unfold small
  have:(n+1) * (bytes+1)<=(n+m+1) * (bytes+1):=Nat.mul_le_mul_right _ (by omega)
  omega
 refine Dj.mk (v:=.slice (some ⟨Av,0,some 0⟩) (n+m) 0) (h':=h.put Av (.grow (cs++nc) e sz [(cs++nc).length] 0)) ?_ (hr _ _ (.new hb (by omega) hl (by omega)))
 rcases G.is with⟨h0,⟨hv,rfl⟩|⟨a,hv,rfl⟩⟩|⟨a,hv,hf,hc,hld⟩<;>rw[hv]at hsv<;>have hv:=hsv
 ·subst h0
  have hcs:cs=[]:=List.length_eq_zero_iff.1 (by rw[G.len];simp)
  subst hcs
  simp only[Nat.zero_add]at hs1
  simp only[BZ,Dc,hv,c1,Option.bind_some,if_neg hm0,c2,CS,if_pos hs1,List.nil_append,Nat.zero_add]
 ·subst h0
  have hcs:cs=[]:=List.length_eq_zero_iff.1 (by rw[G.len];simp)
  subst hcs
  simp only[Nat.zero_add]at hs1
  simp only[BZ,Dc,hv,c1,Option.bind_some,if_neg hm0,c2,CS,List.nil_append,Nat.zero_add,if_pos (Nat.le_refl far)]
  rw[if_pos ⟨trivial,trivial,hs1⟩]
 ·have hnf:¬far<=c:=by omega
  have hn1:¬n+m<=n:=by omega
  rcases hc with⟨hc,rfl⟩|⟨⟨g,hg⟩,rfl⟩
  ·simp only[BZ,Dc,hv,c1,Option.bind_some,if_neg hm0,c2,if_neg hnf,HQ,hc,EZ]
   rw[if_neg hn1,if_pos ⟨hs1,hs2⟩,hld]
   rfl
  ·have e1:(2*n+1)%2=1:=by omega
   have e2:(2*n+1) / 2=n:=by omega
   simp only[BZ,Dc,hv,c1,Option.bind_some,if_neg hm0,c2,if_neg hnf,HQ,hg,EZ,e1,e2,if_true]
   rw[if_neg hn1,if_pos ⟨hs1,hs2⟩,hld]
   rfl

theorem PE (cs:List Value):cut cs 0 cs.length=some cs:=by simp[cut]
theorem Grown.cells {b N:Nat}{e:TypeId}{sz n:Nat}{cs:List Value}{v:Option Addr}(G:Grown b N h e sz n cs v) (h0:0<n):∃a,v=some a/\h.Az a (n*sz)=some cs/\b<=a.block/\a.block<N:=by
 rcases G.is with⟨h0,hv⟩|⟨r,g,lens,valid,hv,h1,h2,h3,h4,h5,h6,h7⟩
 ·omega
 ·refine⟨_,hv,?_,h1,h2⟩
  simp only[H.Az,h3,Option.bind_some,Br]
  rw[if_pos ⟨h4,by omega,by rw[h6,G.len];omega⟩,<-G.len]
  exact PE cs
theorem Grown.full {b N:Nat}{e:TypeId}{sz n:Nat}{cs:List Value}{v:Option Addr}(G:Grown b N h e sz n cs v) (hsm:n<1000000000):(∃a,v=some a/\0<n/\CV a 0 n sz=a/\(∃g,a.spot=some g)/\Full h sz n cs (some a) (2*n+1))\/n=0/\v=none/\cs=[]:=by
 rcases G.is with⟨h0,hv⟩|⟨r,g,lens,valid,hv,h1,h2,h3,h4,h5,h6,h7⟩
 ·subst h0
  exact .inr ⟨rfl,hv,List.length_eq_zero_iff.1 (by rw[G.len];simp)⟩
 ·obtain⟨a,ha,hl, -⟩:=G.cells h7
  rw[ha]at hv
  simp only[Option.some.injEq]at hv
  subst hv
  exact .inl ⟨_,ha,h7,by simp[CV,BB],⟨g,rfl⟩,G.len,.inr ⟨_,rfl,by unfold far;omega,.inr ⟨⟨g,rfl⟩,rfl⟩,hl⟩⟩
theorem fF {b N:Nat}{e:TypeId}{sz n:Nat}{cs:List Value}{x hi mx:AP}{k1 k2:IntKind}{w:Option Addr}(hsv:ev ts x= .slice w n 0) (G:Grown b N h e sz n cs w) (hh:ev ts hi= .int k1 (n:Int)) (hx:ev ts mx= .int k2 (n:Int)) (hsm:n<1000000000)
 (hr:∀v c,(∀h2:H,(∀r,b<=r->r<N->h2.get r=h.get r)->Full h2 sz n cs v c)->k (.slice v n c) h):Dj P lo Av ts h (.Hw sz x none (some hi) (some mx)) k:=by
 have n1:Cv (ev ts hi)=some n:=by rw[hh];simp[Cv]
 have n2:Cv (ev ts mx)=some n:=by rw[hx];simp[Cv]
 rcases G.full hsm with⟨a,hv,h0,hs,⟨g,hg⟩,F⟩|⟨h0,hv,hc⟩
 ·have F2:∀h2:H,(∀r,b<=r->r<N->h2.get r=h.get r)->Full h2 sz n cs (some a) (2*n+1):=fun h2 hh=>by
   rcases(G.frame (Nat.le_refl _) hh).full hsm with⟨a',hv',_,_,_,F'⟩|⟨h0',_,_⟩
   ·rw[hv]at hv'
    rw[hv']
    exact F'
   ·omega
  rw[hv]at hsv
  refine Dj.mk (v:=.slice (some a) n (2*n+1)) (h':=h) ?_ (hr _ _ F2)
  have hf:¬far<=0:=by unfold far;omega
  have hf2:enc2 n<far:=by unfold enc2 far;omega
  simp only[BZ,keep,IY,Hw,hsv,if_neg hf,hg,Qa,De,BP,n1,n2,Option.map_some]
  simp[enc2,hs]
  unfold far;omega
 ·rw[hv]at hsv
  subst h0
  subst hc
  refine Dj.mk (v:=.slice none 0 0) (h':=h) ?_ (hr _ _ fun _ _=>⟨by simp,.inl ⟨rfl,.inl ⟨rfl,rfl⟩⟩⟩)
  simp[BZ,keep,IY,Hw,hsv,BP,n1,n2,U7]
end

theorem RN {h:H}{a:Addr}{n sz:Nat}{f:Nat->List Value}(hf:∀i,(f i).length=sz) (hl:h.Az a (n*sz)=some (rowsOf f n)):Ro h a n sz f:=fun i hi=>by
 have hc:cut (rowsOf f n) (i*sz) sz=some (f i):=by
  have:=HM hf hi [] [] (a:=i*sz) (by simp)
  simpa using this
 unfold H.Az at hl⊢
 cases hrow:h.get a.block with
 |none=>rw[hrow]at hl;simp at hl
 | some row=>
   rw[hrow]at hl
   simp only[BB,hrow,Option.bind_some]at hl⊢
   have hle:(i+1) *sz<=n*sz:=Nat.mul_le_mul_right _ hi
   rw[Nat.add_mul,Nat.one_mul]at hle
   cases row<;>cases hs:a.spot<;>simp only[hs,Br]at hl⊢<;>first
    |exact MN hl hc
    | (split at hl
       ·rename_i q
        rw[if_pos ⟨q.1,q.2.1,by omega⟩]
        exact MN hl hc
       ·simp at hl)
    |simp at hl
theorem Sc {row:A9}{off n m:Nat}{s:Option Nat}{l k:List Value}(h1:Br off n row s=some l) (h2:Br (off+n) m row s=some k):Br off (n+m) row s=some (l++k):=by
 have main:∀c:List Value,cut c off n=some l->cut c (off+n) m=some k->cut c off (n+m)=some (l++k):=by
  intro c a b
  unfold cut at*
  split at a
  ·split at b
   ·simp only[Option.some.injEq]at a b
    rw[if_pos (by omega),<-a,<-b,List.take_add]
    simp[List.drop_drop]
   ·simp at b
  ·simp at a
 cases row<;>cases s<;>simp only[Br]at h1 h2⊢<;>first
  |exact main _ h1 h2
  | (split at h1
     ·split at h2
      ·rename_i a b
       rw[if_pos ⟨a.1,a.2.1,by omega⟩]
       exact main _ h1 h2
      ·simp at h2
     ·simp at h1)
  |simp at h1
theorem Ro.all {h:H}{a:Addr}{n sz:Nat}{f:Nat->List Value}(he:Ro h a n sz f) (h0:0<n):∀k,0<k->k<=n->h.Az a (k*sz)=some (rowsOf f k)
 |0,hk,_=>by omega
 | 1,_,hn=>by
   have:=he 0 h0
   simpa[rowsOf,BB]using this
 | k +2,_,hn=>by
   have ih:=he.all h0 (k+1) (by omega) (by omega)
   have hs:=he (k+1) (by omega)
   unfold H.Az at*
   cases hrow:h.get a.block with
   |none=>rw[hrow]at ih;simp at ih
   | some row=>
     rw[hrow]at ih
     simp only[BB,hrow,Option.bind_some]at ih hs⊢
     have:=Sc ih hs
     rw[Nat.add_mul (k+1) 1 sz,Nat.one_mul]
     exact this
theorem Grown.els {b N:Nat}{h:H}{e:TypeId}{sz n:Nat}{f:Nat->List Value}{v:Option Addr}(G:Grown b N h e sz n (rowsOf f n) v) (hf:∀i,(f i).length=sz):∃a,(0<n->v=some a)/\Ro h a n sz f/\(0<n->b<=a.block/\a.block<N):=by
 rcases Nat.eq_zero_or_pos n with h0|h0
 ·subst h0
  exact⟨⟨0,0,none⟩,fun h=>by omega,fun i hi=>by omega,fun h=>by omega⟩
 ·obtain⟨a,hv,hl,hb⟩:=G.cells h0
  exact⟨a,fun _=>hv,RN hf hl,fun _=>hb⟩
theorem RL {f:Nat->List Value}(hf:∀i,(f i).all Value.oneCell'=true):∀n,(rowsOf f n).all Value.oneCell'=true
 |0=>rfl
 |n+1=>by simp only[rowsOf,List.all_append,RL hf n,hf n,Bool.and_self]
theorem Cells.els {h:H}{sz n c:Nat}{b:Option Addr}{a:Addr}{f:Nat->List Value}(he:Ro h a n sz f) (hb:0<n->b=some a) (hc:0<n->c<far) (hf:∀i,(f i).length=sz) (ho:∀i,(f i).all Value.oneCell'=true):Cells h sz n (.slice b n c) (rowsOf f n):=
 ⟨rfl,fun h0=>by
  obtain rfl:=hb h0
  have:=hc h0
  simp only[Ca]
  rw[if_neg (by omega)]
  exact he.all h0 n h0 (Nat.le_refl _),FY hf n,RL ho n⟩
theorem Full.nil {h:H}{sz:Nat}:Full h sz 0 [] none 0:=⟨by simp,.inl ⟨rfl,.inl ⟨rfl,rfl⟩⟩⟩
theorem Kr {f g:Nat->List Value}:∀n,(∀i,i<n->f i=g i)->rowsOf f n=rowsOf g n
 |0,_=>rfl
 |n+1,h=>by simp only[rowsOf];rw[Kr n fun i hi=>h i (by omega),h n (by omega)]

def DI (f:Nat->Int) (n:Nat):List Value:=rowsOf (fun i=>[.int .i64 (f i)]) n
theorem NR (f:Nat->Int) (n:Nat):(DI f n).length=n:=by
 have:=FY (g:=fun i=>[Value.int .i64 (f i)]) (w:=1) (fun _=>rfl) n
 simpa[DI]using this
def Ox (f:Nat->Int) (i:Nat) (v:Int):Nat->Int:=fun j=>if j=i then v else f j
theorem Un (f:Nat->Int) {n i a:Nat}(v:Int) (hi:i<n) (ha:a=i):splice (DI f n) a [.int .i64 v]=DI (Ox f i v) n:=by
 have:=Oz (g:=fun i=>[Value.int .i64 (f i)]) (w:=1) (fun _=>rfl) hi [] [] [.int .i64 v] rfl (a:=a) (by simp[ha])
 simp only[List.nil_append,List.append_nil]at this
 unfold DI
 rw[this]
 congr 1
 funext j
 simp only[Yc,Ox]
 split<;>rfl
theorem Ints.load {h:H}{a:Addr}{n:Nat}{f:Nat->Int}(hi:Ints h a n f) (h0:0<n):h.Az a n=some (DI f n):=by
 have he:Ro h a n 1 (fun i=>[.int .i64 (f i)]):=fun i hlt=>by
  have:=hi i hlt
  simpa using this
 have:=he.all h0 n h0 (Nat.le_refl _)
 simpa[DI]using this
attribute [irreducible] DI

section
variable {P:Program}{lo Av:Nat}{ts:Ts}{h h':H}{k:Value->H->Prop}
end


def cellsOf {α:Type}(g:α->List Value) (l:List α):List Value:=l.flatMap g
theorem Mk {α:Type}(g:α->List Value) (l:List α) (x:α):cellsOf g (l++[x])=cellsOf g l++g x:=by simp[cellsOf]
theorem Ks {α:Type}{g:α->List Value}{f:Nat->α}:∀n,rowsOf (fun i=>g (f i)) n=cellsOf g ((List.range n).map f)
 |0=>rfl
 |n+1=>by rw[List.range_succ,List.map_append,List.map_cons,List.map_nil,Mk,<-Ks n];rfl
theorem TR {α:Type}(l:List α) (d:α):(List.range l.length).map (fun i=>l.getD i d)=l:=by
 apply List.ext_getElem
 ·simp
 ·intro i h1 h2
  simp[h2]
theorem HO {α:Type}(g:α->List Value) (l:List α) (d:α):cellsOf g l=rowsOf (fun i=>g (l.getD i d)) l.length:=by
 rw[Ks (f:=fun i=>l.getD i d),TR]

theorem Pe {h:H}{a:Addr}{n o k:Nat}{l l':List Value}(hl:h.Az a n=some l) (hc:cut l o k=some l'):h.Az (BB a o) k=some l':=by
 unfold H.Az at hl⊢
 cases hrow:h.get a.block with
 |none=>rw[hrow]at hl;simp at hl
 | some row=>
   rw[hrow]at hl
   simp only[BB,hrow,Option.bind_some]at hl⊢
   have hlen:l.length=n:=bA hl
   have hle:o+k<=n:=by
    unfold cut at hc
    split at hc
    ·omega
    ·cases hc
   cases row<;>cases hs:a.spot<;>simp only[hs,Br]at hl⊢<;>first
    |exact MN hl hc
    | (split at hl
       ·rename_i q
        rw[if_pos ⟨q.1,q.2.1,by omega⟩]
        exact MN hl hc
       ·simp at hl)
    |simp at hl

structure UZ (r:Nat) (h:H) (e:TypeId) (sz n:Nat) (cs:List Value) (v:Option Addr):Prop where
 len:cs.length=n*sz
 is:∃g lens valid,v=some ⟨r,0,some g⟩/\h.get r=some (.grow cs e sz lens valid)/\valid<=g/\g+1=lens.length/\Ea lens g=cs.length/\0<n
theorem Grown.lK {b N:Nat}{h:H}{e:TypeId}{sz n:Nat}{cs:List Value}{v:Option Addr}(G:Grown b N h e sz n cs v) (h0:0<n):∃r,UZ r h e sz n cs v/\b<=r/\r<N:=by
 rcases G.is with⟨h0,hv⟩|⟨r,g,lens,valid,hv,h1,h2,h3,h4⟩
 ·omega
 ·exact⟨r,⟨G.len,g,lens,valid,hv,h3,h4⟩,h1,h2⟩
theorem UZ.grown {r b N:Nat}{h:H}{e:TypeId}{sz n:Nat}{cs:List Value}{v:Option Addr}(G:UZ r h e sz n cs v) (hb:b<=r) (hN:r<N):Grown b N h e sz n cs v:=by
 obtain⟨g,lens,valid,hv,h3,h4⟩:=G.is
 exact⟨G.len,.inr ⟨r,g,lens,valid,hv,hb,hN,h3,h4⟩⟩
theorem UZ.frame {r:Nat}{h h':H}{e:TypeId}{sz n:Nat}{cs:List Value}{v:Option Addr}(G:UZ r h e sz n cs v) (hs:h'.get r=h.get r):UZ r h' e sz n cs v:=by
 obtain⟨g,lens,valid,hv,h3,h4⟩:=G.is
 exact⟨G.len,g,lens,valid,hv,hs.trans h3,h4⟩
theorem UZ.load {r:Nat}{h:H}{e:TypeId}{sz n:Nat}{cs:List Value}{v:Option Addr}(G:UZ r h e sz n cs v):∃a,v=some a/\a.block=r/\(∀off k l,cut cs off k=some l->h.Az (BB a off) k=some l)/\
 ∀lo off vs,lo<=r->vs.all Value.oneCell'=true->off+vs.length<=cs.length->∃row,h.Df lo (BB a off) vs=some (h.put r row)/\UZ r (h.put r row) e sz n (splice cs off vs) v:=by
 obtain⟨g,lens,valid,hv,h3,h4,h5,h6,h7⟩:=G.is
 refine⟨_,hv,rfl,fun off k l hc=>?_,fun lo off vs hlo ho hle=>?_⟩
 ·have hle:off+k<=cs.length:=by
   unfold cut at hc
   split at hc
   ·assumption
   ·cases hc
  have h9:valid<=g/\g<lens.length/\0+off+k<=Ea lens g:=⟨h4,by omega,by omega⟩
  show(h.get r).bind (fun row=>Br (0+off) k row (some g))=some l
  rw[h3]
  show(if valid<=g/\g<lens.length/\0+off+k<=Ea lens g then cut cs (0+off) k else none)=some l
  rw[if_pos h9,Nat.zero_add]
  exact hc
 ·refine⟨.grow (splice cs off vs) e sz lens g,?_,?_,g,lens,g,hv,by simp[H.put],Nat.le_refl _,h5,?_,h7⟩
  ·have h9:valid<=g/\g+1=lens.length/\0+off+vs.length<=cs.length:=⟨h4,h5,by omega⟩
   show(if lo<=r/\vs.all Value.oneCell'=true then(h.get r).bind (fun row=>(Cw (0+off) vs row (some g)).map fun row'=>h.put r row')else none)=_
   rw[if_pos ⟨hlo,ho⟩,h3]
   show Option.map (fun row'=>h.put r row') (if valid<=g/\g+1=lens.length/\0+off+vs.length<=cs.length then some (.grow (splice cs (0+off) vs) e sz lens g)else none)=_
   rw[if_pos h9,Nat.zero_add]
   rfl
  ·rw[Nb hle];exact G.len
  ·rw[Nb hle];exact h6
section
variable {P:Program}{lo Av:Nat}{ts:Ts}{h h':H}{k:Value->H->Prop}
theorem fH {e:TypeId}{sz bytes n m r:Nat}{s x:AP}{cs nc:List Value}{w:Option Addr}(hsv:ev ts s= .slice w n 0) (G:UZ r h e sz n cs w) (C:Cells h sz m (ev ts x) nc) (hm:0<m) (hlo:lo<=r) (hsm:(n+m+1) * (bytes+1)<=1099511627776)
 (hr:∀v row,UZ r (h.put r row) e sz (n+m) (cs++nc) v->k (.slice v (n+m) 0) (h.put r row)):Dj P lo Av ts h (.append e sz bytes s x) k:=by
 obtain⟨c1,c2,c3,c4⟩:=C
 have c2:=c2 hm
 have hm0:¬m=0:=by omega
 have hl:(cs++nc).length=(n+m) *sz:=by rw[List.length_append,G.len,c3,Nat.add_mul]
 obtain⟨g,lens,valid,hv,h3,h4,h5,h6,h7⟩:=G.is
 rw[hv]at hsv
 refine Dj.mk (v:=.slice (some ⟨r,0,some (g+1)⟩) (n+m) 0) (h':=h.put r (.grow (cs++nc) e sz ((cs.length+nc.length)::lens) valid)) ?_ (hr _ _ ⟨hl,g+1,(cs.length+nc.length)::lens,valid,rfl,by simp[H.put],by omega,by simp[h5],?_,by omega⟩)
 ·have hf:¬far<=0:=by unfold far;omega
  simp only[BZ,Dc,hsv,c1,Option.bind_some,if_neg hm0,c2,if_neg hf,HQ,h3]
  rw[if_neg (by omega)]
  simp only[K1]
  rw[if_pos ⟨by omega,h4,h5,trivial,trivial,G.len.symm,trivial,trivial,by unfold small;omega,c4⟩]
 ·rw[h5,Lu,List.length_append]
end

end AE

/- Slices that grow, their rows known. -/
namespace AE
open Go Go.RowKit
def GG (r:Nat) (h:H) (e:TypeId) (sz n:Nat) (cs:List Value) (v:Option Addr):Prop:=(n=0/\v=none/\cs=[])\/(0<n/\UZ r h e sz n cs v)
theorem GG.nil {r:Nat}{h:H}{e:TypeId}{sz:Nat}:GG r h e sz 0 [] none:=.inl ⟨rfl,rfl,rfl⟩
theorem GG.frame {r n sz:Nat}{e:TypeId}{h h':H}{cs:List Value}{v:Option Addr}(k:GG r h e sz n cs v) (hr:0<n->h'.get r=h.get r):GG r h' e sz n cs v:=
 k.elim .inl fun⟨h0,G⟩=>.inr ⟨h0,G.frame (hr h0)⟩
section
variable {P:Program}{lo Av:Nat}{ts:Ts}{h:H}{k:Value->H->Prop}
theorem GG.els {r n sz:Nat}{e:TypeId}{f:Nat->List Value}{v:Option Addr}(G:GG r h e sz n (rowsOf f n) v) (hf:∀i,(f i).length=sz):∃a,(0<n->v=some a)/\Ro h a n sz f/\(0<n->a.block=r):=by
 rcases G with⟨rfl, -, -⟩|⟨h0,G⟩
 ·exact⟨⟨0,0,none⟩,fun h=>by omega,fun i hi=>by omega,fun h=>by omega⟩
 ·obtain⟨a,h1,h2,h3⟩:=(G.grown (b:=r) (N:=r+1) (Nat.le_refl _) (by omega)).els hf
  exact⟨a,h1,h2,fun h=>by have:=h3 h;omega⟩
end
end AE

/- Slices that grew by one each time: their rows, to the last mark. -/
namespace AE
open Go Go.RowKit
def JG (sz:Nat):Nat->List Nat
 |0=>[]
 |n+1=>((n+1) *sz)::JG sz n
theorem Jm (sz:Nat):∀n,(JG sz n).length=n
 |0=>rfl
 |n+1=>by simp[JG,Jm sz n]
theorem Ud (sz n:Nat):Ea (JG sz (n+1)) n=(n+1) *sz:=by
 have:=Lu ((n+1) *sz) (JG sz n)
 rw[Jm]at this
 exact this
def Nm (e:TypeId) (sz n:Nat) (cs:List Value):A9:=.grow cs e sz (JG sz n) 0
def FF (r:Nat):Nat->Option Addr
 |0=>none
 |n+1=>some ⟨r,0,some n⟩
structure GX (r:Nat) (h:H) (e:TypeId) (sz n:Nat) (cs:List Value):Prop where
 len:cs.length=n*sz
 g:0<n->h.get r=some (Nm e sz n cs)
theorem GX.nil {r:Nat}{h:H}{e:TypeId}{sz:Nat}:GX r h e sz 0 []:=⟨by simp,fun h=>absurd h (Nat.lt_irrefl 0)⟩
theorem GX.frame {r:Nat}{h h':H}{e:TypeId}{sz n:Nat}{cs:List Value}(k:GX r h e sz n cs) (s:0<n->h'.get r=h.get r):GX r h' e sz n cs:=⟨k.len,fun h0=>(s h0).trans (k.g h0)⟩
section
variable {P:Program}{lo Av:Nat}{ts:Ts}{h:H}{k:Value->H->Prop}
theorem YF {r n bytes sz:Nat}{e:TypeId}{cs nc:List Value}{s x:AP}(G:GX r h e sz n cs) (hsv:ev ts s= .slice (FF r n) n 0) (C:Cells h sz 1 (ev ts x) nc) (hlo:0<n->lo<=r) (hsm:(n+1+1) * (bytes+1)<=1099511627776)
 (hr:∀r',(n=0->r'=Av)->(0<n->r'=r)->GX r' (h.put r' (Nm e sz (n+1) (cs++nc))) e sz (n+1) (cs++nc)->k (.slice (FF r' (n+1)) (n+1) 0) (h.put r' (Nm e sz (n+1) (cs++nc)))):Dj P lo Av ts h (.append e sz bytes s x) k:=by
 obtain⟨c1,c2,c3,c4⟩:=C
 have c2:=c2 (by omega)
 have hl:(cs++nc).length=(n+1) *sz:=by rw[List.length_append,G.len,c3,Nat.add_mul]
 have gx:∀r',GX r' (h.put r' (Nm e sz (n+1) (cs++nc))) e sz (n+1) (cs++nc):=fun r'=>⟨hl,fun _=>by simp[H.put]⟩
 cases n with
 | zero=>
   have hcs:cs=[]:=List.length_eq_zero_iff.1 (by rw[G.len];simp)
   subst hcs
   simp only[FF]at hsv
   have hrow:Nm e sz (0+1) ([]++nc)= .grow nc e sz [nc.length] 0:=by
    simp only[List.nil_append,Nat.zero_add]at hl
    simp only[Nm,List.nil_append,JG,Nat.zero_add,hl]
   refine Dj.mk (v:=.slice (FF Av (0+1)) (0+1) 0) (h':=h.put Av (Nm e sz (0+1) ([]++nc))) ?_ (hr Av (fun _=>rfl) (fun h=>absurd h (Nat.lt_irrefl 0)) (gx Av))
   rw[hrow]
   simp only[BZ,Dc,hsv,c1,Option.bind_some,c2,CS]
   rw[if_neg (by decide),if_pos (by unfold small;omega)]
   rfl
 | succ n=>
   simp only[FF]at hsv
   have h3:=G.g (by omega)
   refine Dj.mk (v:=.slice (some ⟨r,0,some (n+1)⟩) (n+1+1) 0) (h':=h.put r (Nm e sz (n+1+1) (cs++nc))) ?_ (hr r (fun h=>by omega) (fun _=>rfl) (gx r))
   have hf:¬far<=0:=by unfold far;omega
   have hrow:Nm e sz (n+1+1) (cs++nc)= .grow (cs++nc) e sz ((cs.length+nc.length)::JG sz (n+1)) 0:=by
    rw[List.length_append]at hl
    simp only[Nm,JG,<-hl]
   rw[hrow]
   simp only[BZ,Dc,hsv,c1,Option.bind_some,c2,if_neg hf,HQ,h3,Nm]
   rw[if_neg (by omega),if_neg (by decide)]
   simp only[K1]
   rw[if_pos ⟨hlo (by omega),Nat.zero_le _,by rw[Jm],trivial,trivial,G.len.symm,trivial,trivial,by unfold small;omega,c4⟩]
end
theorem GX.lK {r n sz:Nat}{h:H}{e:TypeId}{cs:List Value}(k:GX r h e sz n cs) (h0:0<n):UZ r h e sz n cs (FF r n):=by
 cases n with
 |zero=>omega
 |succ n=>exact⟨k.len,n,JG sz (n+1),0,rfl,k.g h0,Nat.zero_le _,by rw[Jm],by rw[Ud,k.len],h0⟩
end AE

/- Slices cut. -/
namespace AE
open Go Go.RowKit
section
variable {P:Program}{lo Av:Nat}{ts:Ts}{h:H}{k:Value->H->Prop}
end
end AE

/- Maps from numbers to numbers, of which nothing was deleted. -/
set_option linter.unusedVariables false
namespace AE
open Go Go.RowKit

end AE

/- Maps from numbers to numbers, of which entries may have been deleted; ranges over them. -/
set_option linter.unusedVariables false
namespace AE
open Go Go.RowKit

structure E3 where
 k:Nat
 v:Nat
 b:Nat
def E3.ent (e:E3):MapEntry:=⟨.int .i64 e.k,.int .i64 e.v,e.b⟩
theorem Pd {α β:Type}(f:α->β):∀(l:List α) (i:Nat),(l.map f).eraseIdx i=(l.eraseIdx i).map f
 |[],_=>by simp
 |x::l,0=>by simp
 |x::l,i+1=>by simp[Pd f l i]
section
variable {P:Program}{lo Av r a:Nat}{ts:Ts}{h:H}{kt:TypeId}{m x:AP}{es:List E3}{c:Nat}{e:E3}
theorem bY {es:List MapEntry}(hm:ev ts m= .map (some r)) (hg:h.get r=some (.map es c)):BZ P lo Av ts h (.EN m)=some (.pointer (some ⟨Av,0,none⟩),h.put Av (.iter r c [] c)):=by
 simp only[BZ,hm,Ht,hg]
end
end AE

/- A call of a function of the library that has no code here: the copy of a map. -/
set_option linter.unusedVariables false
namespace AE
open Go

theorem S0 {P:Program}{g:FuncId}(hc:∀(as_:Array Value) (w:World),(callFunc g as_).run P w=((Extern.MapsClone.clone as_).run P w).andThen fun v w'=>.ok (.value v) w') {lo r:Nat}{h:H}{t:TypeId}{es:List MapEntry}{c:Nat}
 (hlo:lo<=h.next) (hg:h.get r=some (.map es c)):
 Eg P (.func (.func g) ⟨[]⟩ ⟨[]⟩) lo h [.iface t (.map (some r))] (.iface t (.map (some h.next))) ((h.bump 1).put h.next (.map es c)):=by
 refine⟨(Quiet.bump 1).trans (Quiet.put hlo (by simp[H.bump])),fun o c' ro a I w K Q ho ef Mi k iF Mt hK=>?_⟩
 simp only[ren,DY,Ah]at ef Mi
 unfold Mw at ef
 simp only[BH,In,and_true]at Mt
 obtain⟨b0,hb0⟩:=Mt
 obtain⟨ie,b,hat,hbase,hheap⟩:=k.rows _ _ hg ⟨_,_,hb0⟩
 have hblk:I.blk r=b:=by simp[Al.blk,hat]
 rw[hblk]at Mi
 have hargs:c'.args.map a.eval= #[.iface t (.map (some b))]:=by
  apply Array.ext'
  simpa using Mi
 have hnew:¬I.dom h.next:=fun d=>Nat.lt_irrefl _ (k.lt _ d)
 have kb:=k.bump 1
 have hcl:(Extern.MapsClone.clone #[.iface t (.map (some b))]).run P w= .ok (.iface t (.map (some w.heap.size))) (w.alloc (.map ⟨es.map (B0 I)⟩ c)):=by
  have e:Extern.MapsClone.clone #[.iface t (.map (some b))]=(getObj b).bind (fun o=>match o with
   |.map entries clock=>(newObj (.map entries clock)).bind fun n=>.pure (.iface t (.map (some n)))
   |_=>stuck "maps.clone: a map expected"):=rfl
  rw[e]
  show((getObj b >>= _:Sem Value)).run P w=_
  rw[Sem.run_bind,C7 hheap]
  rfl
 have hrun:(execOp a.eval o).run P w= .ok (.value (.iface t (.map (some w.heap.size)))) (w.alloc (.map ⟨es.map (B0 I)⟩ c)):=by
  simp[execOp,ho,ef,Deferred.ofValue,invoke,hc,hargs,hcl]
 have hnx:h.next<(h.bump 1).next:=Nat.lt_succ_self _
 let J:=I.plus h.next none w.heap.size 0
 have hle:Le I J:=Le.plus (Dh hnew none)
 have hes:es.map (B0 J)=es.map (B0 I):=List.map_congr_left fun e he=>((ie e he).le hle).2
 have hrow:Bw J h.next (w.alloc (.map ⟨es.map (B0 I)⟩ c)) (.map es c):=by
  refine⟨fun e he=>((ie e he).le hle).1,w.heap.size,Al.Ax ..,?_,?_⟩
  ·exact k.base
  ·rw[hes];exact heap_alloc _ _
 refine FW (fun c e=>by rw[ho]at e;cases e) hrun (.inl rfl) ?_
 have NT:ren J (.iface t (.map (some h.next)))= .iface t (.map (some w.heap.size)):=by
  simp[ren,Al.blk,J,Al.Ax]
 have hW:BR I J lo h.next ((h.bump 1).put h.next (.map es c)) w (w.alloc (.map ⟨es.map (B0 I)⟩ c)):=
  ⟨BA.plus (Dh hnew _) (.inl (Nat.le_refl _)),fun r d=>(Al.BI d).imp id (fun e=>by omega),Al.Er hlo,kb.new hnew hnx none 0 _ hrow,Ext.alloc I lo w _⟩
 have:=hK J _ hW (by simp only[In,eM];exact⟨_,Al.Ax ..⟩)
 rw[NT]at this
 exact this

end AE

/- Calls of functions of the model's own that look at nothing but what they are handed. -/
namespace AE
open Go Go.RowKit
set_option linter.unusedVariables false
set_option linter.unusedSimpArgs false

end AE

/- Functions of the library by the shelf's contracts of the form Below: what was there stays; a flat value, or one new row, comes back. -/
namespace AE
open Go Go.RowKit
set_option linter.unusedVariables false

theorem Rel.below {I:Al}{h:H}{w w':World}(k:Rel I h w) (b:Below w.heap.size w w'):Rel I h w':=by
 refine⟨fun r row hr d=>(k.rows r row hr d).le (Le.refl I) (fun _ _ e=>e) (fun b' ⟨_,_,hb⟩=>b.block _ (k.size _ _ _ _ hb)),k.lt,fun r s b' d e=>Nat.lt_of_lt_of_le (k.size _ _ _ _ e) b.size,Nat.le_trans k.base b.size,k.tabs.same (fun b' hb=>b.block _ (Nat.lt_of_lt_of_le hb k.base)),k.inj,k.clean⟩
theorem Ext.below (I:Al) (lo:Nat) {w w':World}(b:Below w.heap.size w w'):Ext I lo w w':=⟨b.os,b.tape,b.output,b.size,fun b' hb _=>b.block b' hb⟩
theorem BR.jj {I:Al}{lo base:Nat}{h:H}{w w':World}(k:Rel I h w) (b:Below w.heap.size w w'):BR I I lo base h w w':=
 ⟨BA.refl I w,fun _ d=>.inl d,fun _ _ _ _ e=>e,k.below b,Ext.below I lo b⟩
theorem AF.of_below {P:Program}{f:FuncId}{lo:Nat}{h:H}{args:List Value}{v:Value}(he:∀(as_:Array Value) (w:World),(callFunc f as_).run P w= .ok (.enter f as_) w) (hv:flat v=true)
 (hc:∀I w,Rel I h w->BH I args->Calls P f ⟨Ah I args⟩ w fun e w'=>e= .returned v/\Below w.heap.size w w'):AF P f lo h args v h:=by
 refine⟨Quiet.refl lo h,he,fun I w k i=>(hc I w k i).mono ?_⟩
 rintro e w' ⟨rfl,b⟩
 exact⟨I,BR.jj k b,(Bi I v hv).2,by rw[(Bi I v hv).1]⟩
theorem Rel.bS {I:Al}{h:H}{w w':World}(k:Rel I h w) (au:Below w.heap.size w w') {nb:Nat}(h1:w.heap.size<=nb) (h2:nb<w'.heap.size) (s:Option Nat) (c:Nat) {row:A9}(hrow:Bw (I.plus h.next s nb c) h.next w' row):
 Rel (I.plus h.next s nb c) ((h.bump 1).put h.next row) w':=by
 have hn:¬I.dom h.next:=fun d=>by have:=k.lt _ d;omega
 have hle:Le I (I.plus h.next s nb c):=Le.plus (Dh hn s)
 have kb:=k.below au
 refine⟨fun r' row' e d=>?_,fun r' d=>?_,fun r' s' b d e=>?_,kb.base,kb.tabs,?_,?_⟩
 ·simp only[H.put]at e
  split at e
  ·rename_i hrr
   subst hrr
   simp at e;subst e;exact hrow
  ·rename_i hrr
   rcases Al.BI d with d|d
   ·exact(kb.rows r' row' e d).le hle (fun s' p e'=>by rwa [Al.Ay (fun h=>hrr h.1)]at e') (fun b d5=>rfl)
   ·exact absurd d hrr
 ·rcases Al.BI d with d|rfl
  ·exact Nat.lt_succ_of_lt (k.lt r' d)
  ·exact Nat.lt_succ_self _
 ·by_cases hrs:r'=h.next/\s'=s
  ·obtain⟨rfl,rfl⟩:=hrs
   rw[Al.Ax]at e
   simp at e;omega
  ·rw[Al.Ay hrs]at e
   exact kb.size _ _ _ _ e
 ·intro r1 r2 s1 s2 b d d' e1 e2 hb
  by_cases g1:r1=h.next/\s1=s
  ·by_cases g2:r2=h.next/\s2=s
   ·rw[g1.1,g2.1]
   ·rw[Al.Ay g2]at e2
    obtain⟨rfl,rfl⟩:=g1
    rw[Al.Ax]at e1
    have:=k.size _ _ _ _ e2
    simp at e1;omega
  ·rw[Al.Ay g1]at e1
   by_cases g2:r2=h.next/\s2=s
   ·obtain⟨rfl,rfl⟩:=g2
    rw[Al.Ax]at e2
    have:=k.size _ _ _ _ e1
    simp at e2;omega
   ·rw[Al.Ay g2]at e2
    exact k.inj _ _ _ _ _ _ _ e1 e2 hb
 ·intro r' hr'
  simp only[H.put,H.bump]at hr'⊢
  rw[if_neg (by omega)]
  exact k.clean r' (by omega)
theorem BR.bS {I:Al}{lo:Nat}{h:H}{w w':World}(k:Rel I h w) (hlo:lo<=h.next) (au:Below w.heap.size w w') {nb:Nat}(h1:w.heap.size<=nb) (h2:nb<w'.heap.size) (s:Option Nat) (c:Nat) {row:A9}(hrow:Bw (I.plus h.next s nb c) h.next w' row):
 BR I (I.plus h.next s nb c) lo h.next ((h.bump 1).put h.next row) w w':=
 have hn:¬I.dom h.next:=fun d=>by have:=k.lt _ d;omega
 ⟨BA.plus (Dh hn _) (.inl h1),fun r d=>(Al.BI d).imp id (fun e=>by omega),Al.Er hlo,k.bS au h1 h2 s c hrow,Ext.below I lo au⟩
theorem lt_of_heap {w:World}{b:Nat}{o:Obj}(h:w.heap[b]? =some o):b<w.heap.size:=by
 rcases Nat.lt_or_ge b w.heap.size with h'|h'
 ·exact h'
 ·simp[Array.getElem?_eq_none h']at h
theorem AF.R5 {P:Program}{f:FuncId}{lo:Nat}{h:H}{args cs:List Value}{e:TypeId}{n c:Nat}(he:∀(as_:Array Value) (w:World),(callFunc f as_).run P w= .ok (.enter f as_) w) (hcs:B7 cs=true) (hlo:lo<=h.next) (hcap:c<far) (hn:n<=c)
 (hc:∀I w,Rel I h w->BH I args->Calls P f ⟨Ah I args⟩ w fun e' w'=>∃nb,w.heap.size<=nb/\w'.heap[nb]? =some (.cells ⟨cs⟩ e (0,0))/\Below w.heap.size w w'/\e'= .returned (.slice (some ⟨nb,0,none⟩) n c)):
 AF P f lo h args (.slice (some ⟨h.next,0,none⟩) n c) ((h.bump 1).put h.next (.cells cs e)):=by
 refine⟨(Quiet.bump 1).trans (Quiet.put hlo (by simp[H.bump])),he,fun I w k i=>(hc I w k i).mono ?_⟩
 rintro e' w' ⟨nb,h1,h2,au,rfl⟩
 obtain⟨er,ir⟩:=CN (I.plus h.next none nb 0) cs hcs
 refine⟨_,BR.bS k hlo au h1 (lt_of_heap h2) none 0 (row:=.cells cs e) ⟨ir,nb,Al.Ax ..,Nat.le_trans k.base h1,by rw[er];exact h2⟩,?_,?_⟩
 ·rw[B8 hcap]
  exact⟨⟨_,Al.Ax ..⟩,by simpa[C6]using hn⟩
 ·rw[BD hcap]
  simp[Cx,Bq,Al.Ax]
theorem AF.Qt {P:Program}{f:FuncId}{lo:Nat}{h:H}{args cs:List Value}{e:TypeId}(he:∀(as_:Array Value) (w:World),(callFunc f as_).run P w= .ok (.enter f as_) w) (hcs:B7 cs=true) (hlo:lo<=h.next)
 (hc:∀I w,Rel I h w->BH I args->Calls P f ⟨Ah I args⟩ w fun e' w'=>∃nb C cap,w.heap.size<=nb/\w'.heap[nb]? =some (.cells C e (0,0))/\C.size=cap/\cs.length<=cap/\(∀i,i<cs.length->C[i]? =cs[i]?)/\Below w.heap.size w w'/\e'= .returned (.slice (some ⟨nb,0,none⟩) cs.length cap)):
 AF P f lo h args (.slice (some ⟨h.next,0,some 0⟩) cs.length 0) ((h.bump 1).put h.next (.grow cs e 1 [cs.length] 0)):=by
 refine⟨(Quiet.bump 1).trans (Quiet.put hlo (by simp[H.bump])),he,fun I w k i=>(hc I w k i).mono ?_⟩
 rintro e' w' ⟨nb,C,cap,h1,h2,h3,h4,h5,au,rfl⟩
 have hn:¬I.dom h.next:=fun d=>by have:=k.lt _ d;omega
 obtain⟨er,ir⟩:=CN (I.plus h.next (some 0) nb cap) cs hcs
 have hcp:(I.plus h.next (some 0) nb cap).cap h.next 0=cap:=by simp[Al.plus]
 refine⟨_,BR.bS k hlo au h1 (lt_of_heap h2) (some 0) cap (row:=.grow cs e 1 [cs.length] 0) ⟨ir,rfl,by simp,fun g p eg=>?_,fun g g' b d d' _ _ x1 x2=>?_,fun g _ hg=>?_⟩,?_,?_⟩
 ·by_cases hg:g=0
  ·subst hg;simp
  ·rw[Al.Ay (by simp[hg])]at eg
   exact absurd ⟨_,_,eg⟩ hn
 ·have z:∀g p,(I.plus h.next (some 0) nb cap).at_ h.next (some g)=some p->g=0:=fun g p eg=>by
   by_cases hg:g=0
   ·exact hg
   ·rw[Al.Ay (by simp[hg])]at eg
    exact absurd ⟨_,_,eg⟩ hn
  obtain rfl:=z _ _ x1
  obtain rfl:=z _ _ x2
  rw[x1]at x2;simp at x2;exact x2
 ·simp only[List.length_singleton,Nat.lt_one_iff]at hg
  subst hg
  refine⟨nb,0,C,Al.Ax ..,Nat.le_trans k.base h1,h2,by simp[Ea];omega,by rw[hcp];omega,fun i hi=>?_⟩
  simp[Ea]at hi
  rw[er,Nat.zero_add];exact h5 i hi
 ·rw[B8 (by unfold far;omega)]
  exact⟨⟨_,Al.Ax ..⟩,by simp[C6,hcp];omega⟩
 ·rw[BD (by unfold far;omega)]
  simp[Cx,Bq,Al.Ax,hcp]
theorem WI {I:Al}{h:H}{w:World}(k:Rel I h w) {a:Addr}{n:Nat}{l:List Value}(ia:Jt I a) (hl:h.Az a n=some l):∃b,Cx I a=some b/\b.spot=none/\b.block<w.heap.size/\BH I l/\l.length=n/\∀j v,l[j]? =some v->w.cell? (b.add j)=some (ren I v):=by
 cases hg:h.get a.block with
 |none=>simp[H.Az,hg]at hl
 | some row=>
   obtain⟨b,h1,h2,h3,h4,h5⟩:=HE hg (k.rows _ _ hg (AQ ia)) ia hl
   obtain⟨p,hp⟩:=ia
   have:b=⟨p.1,p.2+a.off,none⟩:=by simp only[Cx,hp,Option.some.injEq]at h1;exact h1.symm
   exact⟨b,h1,h2,by rw[this];exact k.size _ _ _ _ hp,h3,h4,h5⟩
end AE

/- Strings: their bytes as_ numbers; operations on them, and on numbers of other kinds than int. -/
namespace AE
open Go


def BK (s:ByteArray):List Nat:=s.data.toList.map (·.toNat)
def bs (l:List Nat):ByteArray:=⟨(l.map UInt8.ofNat).toArray⟩
theorem Kx (s:ByteArray):(BK s).length=s.size:=by
 show(s.data.toList.map _).length=_
 rw[List.length_map]
 rfl
theorem bV (s:ByteArray):∀c∈BK s,c<256:=fun c hc=>by
 simp only[BK,List.mem_map]at hc
 obtain⟨b, -,rfl⟩:=hc
 exact b.toNat_lt
theorem bW {l:List Nat}(h:∀c∈l,c<256):BK (bs l)=l:=by
 simp only[BK,bs,List.map_map]
 conv=>rhs;rw[<-List.map_id l]
 refine List.map_congr_left fun c hc=>?_
 simp only[Function.comp,id,UInt8.toNat_ofNat']
 exact Nat.mod_eq_of_lt (h c hc)
theorem KX (s:ByteArray):bs (BK s)=s:=by
 simp[BK,bs,Function.comp_def]
theorem R6 {a b:ByteArray}(h:BK a=BK b):a=b:=by rw[<-KX a,<-KX b,h]
theorem XE (a b:List Nat):bs (a++b)=bs a++bs b:=by
 apply ByteArray.ext
 simp[bs]
theorem Ky (s:ByteArray) (i j:Nat):BK (s.extract i j)=((BK s).take j).drop i:=by
 simp only[BK,ByteArray.data_extract,Array.toList_extract,List.extract_eq_drop_take',List.map_drop,List.map_take]
theorem UL (l:List Nat):(bs l).size=l.length:=by simp[bs,ByteArray.size]
theorem YO {s:ByteArray}{i:Nat}(h:i<s.size):s[i]?.map (·.toNat)=some ((BK s).getD i 0):=by
 have h':i<(BK s).length:=by rw[Kx];exact h
 have:(BK s).getD i 0=(BK s)[i]:=by simp[List.getD_eq_getElem?_getD,h']
 rw[this]
 simp[BK,h]
 rfl


section
variable {P:Program}{ts:Ts}{o:Oper}

theorem Ja {op:BinOp}{t c:TypeId}{x y:Operand}{a b v:Value}(ho:o.op= .binOp op t x y c) (hx:Ii ts x=a) (hy:Ii ts y=b) (fa:flat a=true) (fb:flat b=true) (hg:Au P (eqGuard op t x y a b)=some ())
 (he:Au P (binOp op t a b)=some v) (fv:flat v=true):EJ P ts o=some v:=by
 have ops:o.op.operands.toList=[x,y]:=by rw[ho];rfl
 unfold EJ
 rw[ops]
 simp only[List.all_cons,List.all_nil,hx,hy,fa,fb,Bool.and_true,if_true]
 unfold execOp
 rw[ho]
 simp only[hx,hy,AL,hg,Option.bind_some,he]
 show Kt (some (Next.value v))=_
 simp[Kt,fv]
theorem Ps {op:BinOp}{t:TypeId}{x y:Operand}{k k':IntKind}{a b:Int}:Au P (eqGuard op t x y (.int k a) (.int k' b))=some ():=by
 unfold eqGuard
 cases op<;>rfl
theorem Pq {op:BinOp}{t:TypeId}{x y:Operand}{a b:ByteArray}:Au P (eqGuard op t x y (.string a) (.string b))=some ():=by
 unfold eqGuard
 cases op<;>rfl
def jd:BinOp->Int->Int->Option Bool
 |.eql,a,b=>some (decide (a=b))
 |.neq,a,b=>some (decide (a≠b))
 |.lss,a,b=>some (decide (a<b))
 |.leq,a,b=>some (decide (a<=b))
 |.gtr,a,b=>some (decide (a>b))
 |.geq,a,b=>some (decide (a>=b))
 |_,_,_=>none
theorem V8 {op:BinOp}{t c:TypeId}{x y:Operand}{k:IntKind}{a b:Int}{r:Bool}(ho:o.op= .binOp op t x y c) (hx:Ii ts x= .int k a) (hy:Ii ts y= .int k b) (hr:jd op a b=some r):EJ P ts o=some (.bool r):=by
 refine Ja ho hx hy rfl rfl Ps ?_ rfl
 cases op<;>simp only[jd,Option.some.injEq,reduceCtorEq]at hr<;>subst hr<;>simp[binOp,Op.intCmp,B1,bne,BEq.beq]
def rC:BinOp->Int->Int->Option Int
 |.add,a,b=>some (a+b)
 |.sub,a,b=>some (a - b)
 |.mul,a,b=>some (a*b)
 |_,_,_=>none
theorem XU {op:BinOp}{t c:TypeId}{x y:Operand}{k:IntKind}{a b r:Int}(ho:o.op= .binOp op t x y c) (hx:Ii ts x= .int k a) (hy:Ii ts y= .int k b) (hr:rC op a b=some r):EJ P ts o=some (.int k (k.wrap r)):=by
 refine Ja ho hx hy rfl rfl Ps ?_ rfl
 cases op<;>simp only[rC,Option.some.injEq,reduceCtorEq]at hr<;>subst hr<;>simp[binOp,Op.intArith,B1]
theorem toList_eq (a b:ByteArray):(a.toList==b.toList)=decide (BK a=BK b):=by
 rw[Lib.toList_data,Lib.toList_data]
 by_cases h:a=b
 ·subst h;simp
 ·have h1:¬BK a=BK b:=fun e=>h (R6 e)
  have h2:¬a.data.toList=b.data.toList:=fun e=>h (ByteArray.ext (Array.ext' e))
  rw[decide_eq_false h1]
  exact beq_eq_false_iff_ne.2 h2
def ff:BinOp->List Nat->List Nat->Option Bool
 |.eql,a,b=>some (decide (a=b))
 |.neq,a,b=>some (decide (¬a=b))
 |_,_,_=>none
theorem Rr {op:BinOp}{t c:TypeId}{x y:Operand}{a b:ByteArray}{r:Bool}(ho:o.op= .binOp op t x y c) (hx:Ii ts x= .string a) (hy:Ii ts y= .string b) (hr:ff op (BK a) (BK b)=some r):EJ P ts o=some (.bool r):=by
 refine Ja ho hx hy rfl rfl Pq ?_ rfl
 cases op<;>simp only[ff,Option.some.injEq,reduceCtorEq]at hr<;>subst hr<;>simp[binOp,Op.stringOp,B1,toList_eq]
theorem V9 {t c:TypeId}{x y:Operand}{a b:ByteArray}(ho:o.op= .binOp .add t x y c) (hx:Ii ts x= .string a) (hy:Ii ts y= .string b) (hl:a.size+b.size<=9223372036854775807):EJ P ts o=some (.string (a++b)):=by
 refine Ja ho hx hy rfl rfl Pq ?_ rfl
 have:¬(((a.size+b.size:Nat):Int)>IntKind.i64.max):=by
  have:IntKind.i64.max=9223372036854775807:=by decide
  rw[this];omega
 simp only[binOp,Op.stringOp]
 rw[if_neg this]
 rfl
theorem V7 {t:TypeId}{x i:Operand}{s:ByteArray}{k:IntKind}{z:Int}{n:Nat}(ho:o.op= .index t x i) (ht:P.underlying t=some .string) (hx:Ii ts x= .string s) (hi:Ii ts i= .int k z) (hz:z=(n:Int)) (hn:n<s.size):EJ P ts o=some (.int .u8 ((BK s).getD n 0:Nat)):=by
 subst hz
 have ops:o.op.operands.toList=[x,i]:=by rw[ho];rfl
 obtain⟨b,hb,hbn⟩:∃b,s[n]? =some b/\b.toNat=(BK s).getD n 0:=by
  have:=YO hn
  cases h:s[n]? with
  |none=>rw[h]at this;simp at this
  |some b=>rw[h]at this;exact⟨b,rfl,by simpa using this⟩
 unfold EJ
 rw[ops]
 simp only[List.all_cons,List.all_nil,hx,hi,flat,Bool.and_true,if_true]
 unfold execOp
 rw[ho]
 simp only[hx,hi,Instr.index,AL,asIntOf,B1,Option.bind_some,Cm ht]
 rw[if_pos (by omega)]
 simp only[Int.toNat_natCast,hb,B1,Option.bind_some,hbn,Kt,flat,if_true]
end
end AE

/- Walking over strings, and over numbers of other kinds than int (dev macros). -/
namespace AE
open Go
section
variable {P:Program}{ts:Ts}{o:Oper}{lo Av:Nat}{h:H}{k:Value->H->Prop}
theorem E8 {op:BinOp}{t c:TypeId}{x y:Operand}{kd:IntKind}{a b:Int}{r:Bool}(ho:o.op= .binOp op t x y c) (hx:Ii ts x= .int kd a) (hy:Ii ts y= .int kd b) (hr:jd op a b=some r) (ht:r=true->k (.bool true) h) (hf:r=false->k (.bool false) h):Dj P lo Av ts h (.pure o) k:=
 Dj.pure _ (V8 ho hx hy hr) (by cases r;exact hf rfl;exact ht rfl)
theorem dP {op:BinOp}{t c:TypeId}{x y:Operand}{kd:IntKind}{a b r r':Int}(ho:o.op= .binOp op t x y c) (hx:Ii ts x= .int kd a) (hy:Ii ts y= .int kd b) (hr:rC op a b=some r) (hw:kd.wrap r=r') (hk:k (.int kd r') h):Dj P lo Av ts h (.pure o) k:=
 Dj.pure _ (by rw[XU ho hx hy hr,hw]) hk
theorem D7 {op:BinOp}{t c:TypeId}{x y:Operand}{a b:ByteArray}{r:Bool}(ho:o.op= .binOp op t x y c) (hx:Ii ts x= .string a) (hy:Ii ts y= .string b) (hr:ff op (BK a) (BK b)=some r) (ht:r=true->k (.bool true) h) (hf:r=false->k (.bool false) h):Dj P lo Av ts h (.pure o) k:=
 Dj.pure _ (Rr ho hx hy hr) (by cases r;exact hf rfl;exact ht rfl)
theorem Vh {t:TypeId}{x i:Operand}{s:ByteArray}{kd:IntKind}{z:Int}{n:Nat}(ho:o.op= .index t x i) (ht:P.underlying t=some .string) (hx:Ii ts x= .string s) (hi:Ii ts i= .int kd z) (hz:z=(n:Int)) (hn:n<s.size) (hk:k (.int .u8 ((BK s).getD n 0:Nat)) h):Dj P lo Av ts h (.pure o) k:=
 Dj.pure _ (V7 ho ht hx hi hz hn) hk
end
theorem wrap_u8 {n:Int}(h:0<=n/\n<256):IntKind.u8.wrap n=n:=by
 have:IntKind.u8.wrap n=n%256:=by simp[IntKind.wrap,IntKind.bits,IntKind.signed]
 rw[this];omega
theorem wrap_i32 {n:Int}(h: -2147483648<=n/\n<2147483648):IntKind.i32.wrap n=n:=by
 simp[IntKind.wrap,IntKind.bits,IntKind.signed]
 omega
theorem Dt {G G':Prop}(g:G') (t:G'->G:=by(((with_reducible apply Vh (n:=0));(focus exact rfl);(focus exact rfl);(focus exact rfl);(focus exact rfl);(focus exact rfl);(focus omega)))):G:=t g
theorem Dr {G G':Prop}(g:G') (t:G'->G:=by(((with_reducible apply Vh);(focus exact rfl);(focus exact rfl);(focus exact rfl);(focus exact rfl);(focus exact rfl);(focus omega)))):G:=t g
theorem Dq {G G':Prop}(g:G') (t:G'->G:=by(((with_reducible apply dP);(focus exact rfl);(focus exact rfl);(focus exact rfl);(focus exact rfl);(focus first|exact wrap_u8 (by omega)|exact wrap_i32 (by omega))))):G:=t g
end AE

/- Runs of a walk that come to one place. -/
namespace AE
open Go
theorem _root_.Af {G:Prop}(g:G:=by omega):G:=g
structure Boxed (p:Prop):Prop where
 v:p
theorem Ai {G G':Prop}(g:G') (t:Boxed G'->G:=by(intro g;((try with_reducible apply wpC.to);(repeat'((conv=>whnf);first|refine Aw ?_|((with_reducible apply Fork.mk)<;>(intro hb;first|(exfalso;omega)|clear hb))|fail));(conv=>whnf);(try with_reducible apply At.mk);exact g.v;(first|done|fail)))):G:=t ⟨g⟩
theorem Cl {G G':Prop}(g:G') (t:Boxed G'->G:=by(intro g;((try with_reducible apply wpC.to);(repeat'((conv=>whnf);first|refine Aw ?_|((with_reducible apply Fork.mk)<;>(intro hb;first|(exfalso;omega)|clear hb))|((with_reducible apply Vh (n:=0));(focus exact rfl);(focus exact rfl);(focus exact rfl);(focus exact rfl);(focus exact rfl);(focus omega))|((with_reducible apply Vh);(focus exact rfl);(focus exact rfl);(focus exact rfl);(focus exact rfl);(focus exact rfl);(focus omega))|((with_reducible apply D7);(focus exact rfl);(focus exact rfl);(focus exact rfl);(focus exact rfl);(all_goals(intro hb;first|(replace hb:=of_decide_eq_true hb)|(replace hb:=of_decide_eq_false hb)));(all_goals first|contradiction|clear hb))|((with_reducible apply dP);(focus exact rfl);(focus exact rfl);(focus exact rfl);(focus exact rfl);(focus first|exact wrap_u8 (by omega)|exact wrap_i32 (by omega)))|((with_reducible apply E8);(focus exact rfl);(focus exact rfl);(focus exact rfl);(focus exact rfl);(all_goals(intro hb;first|(replace hb:=of_decide_eq_true hb)|(replace hb:=of_decide_eq_false hb)));(all_goals first|(exfalso;omega)|clear hb))|fail));(conv=>whnf);(try with_reducible apply At.mk);exact g.v;(first|done|fail)))):G:=t ⟨g⟩
end AE

/- Ranges over strings. -/
namespace AE
open Go
section
variable {P:Program}{ts:Ts}{lo Av:Nat}{h:H}{k:Value->H->Prop}
end
end AE

/- Parts of slices, however these came about. -/
namespace AE
open Go Go.RowKit
def eE (a:Addr) (n c:Nat):Prop:=(a.spot=none/\n<=c/\c<far)\/((∃g,a.spot=some g)/\c%2=0/\c+2*n<far)\/((∃g,a.spot=some g)/\c%2=1/\2*n+1<=c/\c<far)
theorem eE.far {a:Addr}{n c:Nat}(h:eE a n c):c<far:=by rcases h with h|h|h<;>omega
section
variable {P:Program}{lo Av:Nat}{ts:Ts}{h:H}{k:Value->H->Prop}
end
end AE

/- A slice that came in, cut behind its last element: s[:n:n]. -/
set_option linter.unusedVariables false
namespace AE
open Go Go.RowKit
def rE (b:Option Addr) (a:Addr) (n c m:Nat) (h:H):Prop:=
 (0<n->b=some a/\a.spot=none/\n<=c/\c<far/\a.block<m)/\(n=0->(b=none/\c=0)\/(∃a',b=some a'/\c=far)\/∃a',b=some a'/\a'.spot=none/\c<far/\a'.block<m/\h.Az a' 0=some [])
theorem rE.same {b:Option Addr}{a:Addr}{n c m m':Nat}{h h':H}(k:rE b a n c m h) (s:Same m h h') (hm:m<=m'):rE b a n c m' h':=by
 refine⟨fun h0=>?_,fun h0=>?_⟩
 ·obtain⟨h1,h2,h3,h4,h5⟩:=k.1 h0
  exact⟨h1,h2,h3,h4,by omega⟩
 ·rcases k.2 h0 with h1|h1|⟨a',h1,h2,h3,h4,h5⟩
  ·exact .inl h1
  ·exact .inr (.inl h1)
  ·exact .inr (.inr ⟨a',h1,h2,h3,by omega,by rw[s.Az h4];exact h5⟩)
section
variable {P:Program}{lo Av:Nat}{ts:Ts}{h:H}{k:Value->H->Prop}
end

def GE (r0 r:Nat) (h:H) (e:TypeId) (sz n:Nat) (cs:List Value) (v:Option Addr):Prop:=(n=0/\v=some ⟨r0,0,none⟩/\cs=[]/\h.get r0=some (.cells [] e))\/(0<n/\UZ r h e sz n cs v)
theorem GE.frame {r0 r n sz:Nat}{e:TypeId}{h h':H}{cs:List Value}{v:Option Addr}(k:GE r0 r h e sz n cs v) (hr0:n=0->h'.get r0=h.get r0) (hr:0<n->h'.get r=h.get r):GE r0 r h' e sz n cs v:=
 k.elim (fun⟨h0,h1,h2,h3⟩=>.inl ⟨h0,h1,h2,(hr0 h0).trans h3⟩) fun⟨h0,G⟩=>.inr ⟨h0,G.frame (hr h0)⟩
section
variable {P:Program}{lo Av:Nat}{ts:Ts}{h:H}{k:Value->H->Prop}
end
end AE

/- Maps whose keys are numbers or strings, with values of any kind, of which entries may have been deleted. -/
set_option linter.unusedVariables false
namespace AE
open Go Go.RowKit

instance:LawfulBEq ByteArray where
 eq_of_beq {a b} h:=by
  have:a.data==b.data:=h
  have:=eq_of_beq this
  cases a;cases b;simp_all
 rfl {a}:=(beq_self_eq_true a.data:(a.data==a.data)=true)
structure Gm (P:Program) (kt:TypeId) {κ:Type} [BEq κ] [LawfulBEq κ] (f:κ->Value):Prop where
 flat:∀k,flat (f k)=true
 vp:∀e k,(Au P (Instr.checkKey e 10000 kt (f k))).isSome=true
 und:∃d,P.underlying kt=some d/\∀a b,Instr.sameNow d (f a) (f b)=some (a==b)
 bits:∀k,Instr.sameBits 10000 (f k) (f k)=true
theorem Gm.i64 {P:Program}{kt:TypeId}(hk:P.underlying kt=some (.int .i64)):Gm P kt (fun k:Int=>Value.int .i64 k):=by
 refine⟨fun _=>rfl,fun e k=>?_,⟨_,hk,fun a b=>?_⟩,fun k=>by simp[Instr.sameBits]⟩
 ·rw[show(10000:Nat)=9999+1 from rfl]
  unfold Instr.checkKey
  simp only[AL,Cm hk,Option.bind_some]
  rfl
 ·simp[Instr.sameNow]
theorem Gm.str {P:Program}{kt:TypeId}(hk:P.underlying kt=some .string):Gm P kt (fun k:ByteArray=>Value.string k):=by
 refine⟨fun _=>rfl,fun e k=>?_,⟨_,hk,fun a b=>?_⟩,fun k=>by simp[Instr.sameBits]⟩
 ·rw[show(10000:Nat)=9999+1 from rfl]
  unfold Instr.checkKey
  simp only[AL,Cm hk,Option.bind_some]
  rfl
 ·simp[Instr.sameNow]

structure EG (κ:Type) where
 k:κ
 v:Value
 b:Nat
def EG.ent {κ:Type}(f:κ->Value) (e:EG κ):MapEntry:=⟨f e.k,e.v,e.b⟩
section
variable {κ:Type} [BEq κ] [LawfulBEq κ] {P:Program}{kt:TypeId}{f:κ->Value}
theorem Xv (hk:Gm P kt f) (es:List (EG κ)):IQ (es.map (EG.ent f))=true:=by
 simp only[IQ,List.all_map,List.all_eq_true]
 intro e _
 exact hk.flat e.k
theorem d7 {d:TypeDesc}(hd:∀a b,Instr.sameNow d (f a) (f b)=some (a==b)) (k:κ):∀(es:List (EG κ)) (j:Nat),Instr.findNow d (f k) (bare (es.map (EG.ent f))) j=some ((es.findIdx? (fun e=>e.k==k)).map fun p=>(p+j,undef))
 |[],_=>rfl
 | e ::l,j=>by
   have ih:=d7 hd k l (j+1)
   simp only[bare,List.map_cons,EG.ent,Instr.findNow,hd]at ih⊢
   by_cases h:e.k=k
   ·subst h
    simp[List.findIdx?_cons]
   ·have h1:(k==e.k)=false:=by
     rw[beq_eq_false_iff_ne];exact fun h'=>h h'.symm
    have h2:(e.k==k)=false:=by rw[beq_eq_false_iff_ne];exact h
    simp only[h1,List.findIdx?_cons,h2,Bool.false_eq_true,if_false]
    rw[ih]
    cases l.findIdx? (fun e=>e.k==k)with
    |none=>rfl
    |some p=>simp;omega
theorem On (hk:Gm P kt f) (e:Bool) (k:κ) (es:List (EG κ)):E4 P e kt (f k) (es.map (EG.ent f))=some (es.findIdx? (fun e=>e.k==k)):=by
 obtain⟨d,hu,hd⟩:=hk.und
 have h2:Au P (Instr.findKey kt (f k) (bare (es.map (EG.ent f))))=some ((es.findIdx? (fun e=>e.k==k)).map fun p=>(p,undef)):=by
  unfold Instr.findKey
  simp only[AL,Cm hu,Option.bind_some,d7 hd k es 0]
  rfl
 unfold E4
 rw[if_pos ⟨hk.flat k,Xv hk es,hk.vp e k⟩,h2]
 cases es.findIdx? (fun e=>e.k==k)<;>rfl
def Jy (es:List (EG κ)) (k:κ):Option Value:=(es.find? (fun e=>e.k==k)).map (·.v)
theorem KM {es:List (EG κ)}{k:κ}:Jy es k=(es.findIdx? (fun e=>e.k==k)).bind fun i=>(es[i]?).map (·.v):=by
 induction es with
 |nil=>rfl
 | cons e l ih=>
   unfold Jy at ih⊢
   simp only[List.find?_cons,List.findIdx?_cons]
   cases e.k==k with
   |true=>simp
   | false=>
     simp only[ih,Bool.false_eq_true,if_false]
     cases l.findIdx? (fun e=>e.k==k)<;>simp
def Nh (es:List (EG κ)) (k:κ) (v:Value):List (EG κ):=es.map fun e=>if e.k==k then{e with v:=v}else e
def TW (es:List (EG κ)) (k:κ) (v:Value) (c:Nat):List (EG κ):=if es.any (fun e=>e.k==k)then Nh es k v else es++[⟨k,v,c⟩]
def UG (es:List (EG κ)) (k:κ) (c:Nat):Nat:=if es.any (fun e=>e.k==k)then c else c+1
theorem RD {es:List (EG κ)}{k:κ}{v:Value}(h:∀e∈es,e.k≠k):Nh es k v=es:=by
 unfold Nh
 conv=>rhs;rw[<-List.map_id es]
 refine List.map_congr_left fun e he=>?_
 have:(e.k==k)=false:=by rw[beq_eq_false_iff_ne];exact h e he
 simp[this]
theorem bz {es:List (EG κ)}(hn:(es.map EG.k).Nodup) {k:κ}{v:Value}{i:Nat}(h:es.findIdx? (fun e=>e.k==k)=some i):∃e,es[i]? =some e/\e.k=k/\es.set i ⟨k,v,e.b⟩=Nh es k v:=by
 induction es generalizing i with
 |nil=>simp at h
 | cons e l ih=>
   simp only[List.map_cons,List.nodup_cons]at hn
   rw[List.findIdx?_cons]at h
   by_cases he:e.k=k
   ·subst he
    simp at h
    subst h
    refine⟨e,rfl,rfl,?_⟩
    have:Nh l e.k v=l:=RD fun x hx h=>hn.1 (List.mem_map.2 ⟨x,hx,h⟩)
    unfold Nh at this⊢
    rw[List.set_cons_zero,List.map_cons,this]
    simp
   ·have h2:(e.k==k)=false:=by rw[beq_eq_false_iff_ne];exact he
    rw[h2]at h
    simp only[Bool.false_eq_true,if_false]at h
    cases h3:l.findIdx? (fun e=>e.k==k)with
    |none=>rw[h3]at h;simp at h
    | some j=>
      rw[h3]at h
      simp at h
      subst h
      obtain⟨x,h4,h5,h6⟩:=ih hn.2 h3
      refine⟨x,by simpa using h4,h5,?_⟩
      unfold Nh at h6⊢
      rw[List.set_cons_succ,h6,List.map_cons,h2]
      simp
theorem VY {es:List (EG κ)}{k:κ}:es.any (fun e=>e.k==k)=(es.findIdx? (fun e=>e.k==k)).isSome:=by
 rw[List.findIdx?_isSome]
variable {lo Av r:Nat}{ts:Ts}{h:H}{m x y:AP}{es:List (EG κ)}{c:Nat}{k:κ}
theorem cg (hk:Gm P kt f) (hm:ev ts m= .map (some r)) (hx:ev ts x=f k) (hg:h.get r=some (.map (es.map (EG.ent f)) c)) {z:Value}:
 BZ P lo Av ts h (.lookup kt z false m x)=some ((Jy es k).getD z,h):=by
 simp only[BZ,hm,hx,Cs,hg,On hk,Option.bind_some,keep,KM]
 cases hf:es.findIdx? (fun e=>e.k==k)with
 |none=>rfl
 | some i=>
   obtain⟨hi, -, -⟩:=List.findIdx?_eq_some_iff_getElem.1 hf
   simp only[JF,List.getElem?_map,List.getElem?_eq_getElem hi,Option.map_some,Option.bind_some]
   rfl
theorem YX (hk:Gm P kt f) (hm:ev ts m= .map (some r)) (hx:ev ts x=f k) (hg:h.get r=some (.map (es.map (EG.ent f)) c)) {z:Value}:
 BZ P lo Av ts h (.lookup kt z true m x)=some (.tuple #[(Jy es k).getD z,.bool (Jy es k).isSome],h):=by
 simp only[BZ,hm,hx,Cs,hg,On hk,Option.bind_some,keep,KM]
 cases hf:es.findIdx? (fun e=>e.k==k)with
 |none=>rfl
 | some i=>
   obtain⟨hi, -, -⟩:=List.findIdx?_eq_some_iff_getElem.1 hf
   simp only[JF,List.getElem?_map,List.getElem?_eq_getElem hi,Option.map_some,Option.bind_some]
   rfl
theorem fT (hk:Gm P kt f) (hm:ev ts m= .map (some r)) (hx:ev ts x=f k) (hlo:lo<=r) (hg:h.get r=some (.map (es.map (EG.ent f)) c)) (hn:(es.map EG.k).Nodup):
 BZ P lo Av ts h (.Fs kt m x y)=some (undef,h.put r (.map ((TW es k (ev ts y) c).map (EG.ent f)) (UG es k c))):=by
 simp only[BZ,hm,hx,Lb,if_pos hlo,hg,On hk,Option.bind_some,TW,UG,VY]
 cases hf:es.findIdx? (fun e=>e.k==k)with
 |none=>simp[Kz,EG.ent]
 | some i=>
   obtain⟨e,h1,h2,h3⟩:=bz hn (v:=ev ts y) hf
   simp only[Kz,List.getElem?_map,h1,Option.map_some,Option.bind_some,Option.isSome_some,if_true]
   have hb:Instr.sameBits 10000 (EG.ent f e).key (f k)=true:=by
    show Instr.sameBits 10000 (f e.k) (f k)=true
    rw[h2];exact hk.bits k
   rw[if_pos hb,<-h3,List.map_set]
   rfl
theorem cU (hk:Gm P kt f) (hm:ev ts m= .map (some r)) (hx:ev ts x=f k) (hlo:lo<=r) (hg:h.get r=some (.map (es.map (EG.ent f)) c)) (hn:(es.map EG.k).Nodup):
 BZ P lo Av ts h (.delete kt m x)=some (.tuple #[],if(Jy es k).isSome then h.put r (.map ((es.filter fun y=>!(y.k==k)).map (EG.ent f)) c)else h):=by
 simp only[BZ,hm,hx,Hu,if_pos hlo,hg,On hk,Option.map_some,KM]
 cases hf:es.findIdx? (fun e=>e.k==k)with
 |none=>rfl
 | some i=>
   obtain⟨hi,h1, -⟩:=List.findIdx?_eq_some_iff_getElem.1 hf
   have h2:es.eraseIdx i=es.filter fun y=>!(y.k==k):=by
    clear hg hi h1
    induction es generalizing i with
    |nil=>simp at hf
    | cons e l ih=>
      simp only[List.map_cons,List.nodup_cons]at hn
      rw[List.findIdx?_cons]at hf
      by_cases he:e.k=k
      ·subst he
       simp at hf
       subst hf
       simp only[List.eraseIdx_cons_zero,List.filter_cons,beq_self_eq_true,Bool.not_true,Bool.false_eq_true,if_false]
       refine(List.filter_eq_self.2 fun x hx=>?_).symm
       have:(x.k==e.k)=false:=by rw[beq_eq_false_iff_ne];exact fun h=>hn.1 (List.mem_map.2 ⟨x,hx,h⟩)
       simp[this]
      ·have h2:(e.k==k)=false:=by rw[beq_eq_false_iff_ne];exact he
       rw[h2]at hf
       simp only[Bool.false_eq_true,if_false]at hf
       cases h3:l.findIdx? (fun e=>e.k==k)with
       |none=>rw[h3]at hf;simp at hf
       | some j=>
         rw[h3]at hf
         simp at hf
         subst hf
         simp only[List.eraseIdx_cons_succ,List.filter_cons,h2,Bool.not_false,if_true,ih (i:=j) hn.2 h3]
   simp only[List.getElem?_eq_getElem hi,Option.map_some,Option.bind_some,Option.isSome_some,if_true,<-h2]
   congr 3
   exact congrArg (fun z=>A9.map z c) (Pd _ _ _)
theorem i6 {since:Nat}{seen:List Nat}{mr:Nat}{e:EG κ}(hx:ev ts x= .pointer (some ⟨r,0,none⟩)) (hg:h.get r=some (.iter mr since (seen++[e.b]) c)) (hgm:h.get mr=some (.map (es.map (EG.ent f)) c)) (he:e∈es) (hn:(es.map EG.b).Nodup):
 BZ P lo Av ts h (.entry x)=some (.tuple ⟨[f e.k,e.v]⟩,h):=by
 have hf:(es.map (EG.ent f)).find? (fun y=>y.born==e.b)=some (e.ent f):=by
  clear hg hgm
  induction es with
  |nil=>exact absurd he (by simp)
  | cons y l ih=>
    simp only[List.map_cons,List.nodup_cons]at hn
    rw[List.map_cons,List.find?_cons]
    rcases List.mem_cons.1 he with rfl|h
    ·simp[EG.ent]
    ·have hne:y.b≠e.b:=fun h'=>hn.1 (List.mem_map.2 ⟨e,h,h'.symm⟩)
     have:((EG.ent f y).born==e.b)=false:=by simpa[EG.ent]using hne
     rw[this]
     exact ih h hn.2
 simp only[BZ,hx,MW,hg,Option.bind_some,VN,List.getLast?_append,List.getLast?_singleton,Option.some_or,hgm,if_true,VL,hf,Option.map_some,keep]
 rfl
theorem X4 {Q:Exit->Ts->H->Prop}{a b mr since c0 clock:Nat}{seen:List Nat}(e1:ev ts x= .pointer (some ⟨r,0,none⟩)) (hlo:lo<=r) (hrm:r≠mr) (hg:h.get r=some (.iter mr since seen c0)) (hgm:h.get mr=some (.map (es.map (EG.ent f)) clock)) (hold:∀e∈es,e.b<since) (hsc:since<=c0)
 (h0:(∀e∈es,e.b∈seen)->Q .normal (Mr (Mr ts a (.tuple ⟨[.bool false]⟩)) b (.bool false)) h)
 (h1:∀e∈es,e.b∉seen->Q .normal (Mr (Mr ts a (.tuple ⟨[.bool true,f e.k,e.v]⟩)) b (.bool true)) (h.put r (.iter mr since (seen++[e.b]) clock))):DV P lo (.next x a b) Q ts h:=by
 refine⟨r,mr,since,seen,c0,es.map (EG.ent f),clock,e1,hlo,hrm,hg,hgm,fun e he=>?_,hsc,fun hz=>?_,fun e he hn=>?_⟩
 ·obtain⟨y,hy,rfl⟩:=List.mem_map.1 he
  exact hold y hy
 ·have:=h0 fun e he=>hz (e.ent f) (List.mem_map.2 ⟨e,he,rfl⟩)
  rw[FI,FI]at this
  exact this
 ·obtain⟨y,hy,rfl⟩:=List.mem_map.1 he
  have:=h1 y hy hn
  rw[FI,FI]at this
  exact this
end
end AE

/- Calls that may come to one of many ends, in code that is walked so. -/
namespace AE
open Go Go.RowKit
set_option linter.unusedVariables false

structure Jv (P:Program) (f:FuncId) (lo:Nat) (h:H) (args:List Value) (R:Value->H->Prop):Prop where
 enters:∀(as_:Array Value) (w:World),(callFunc f as_).run P w= .ok (.enter f as_) w
 calls:∀I w,Rel I h w->BH I args->Calls P f ⟨Ah I args⟩ w fun e w'=>∃v h' J,R v h'/\Quiet lo h h'/\BR I J lo h.next h' w w'/\In J v/\e= .returned (ren J v)
theorem AF.nT {P:Program}{f:FuncId}{lo:Nat}{h h':H}{args:List Value}{v:Value}{R:Value->H->Prop}(a:AF P f lo h args v h') (r:R v h'):Jv P f lo h args R:=
 ⟨a.enters,fun I w k i=>(a.calls I w k i).mono fun _ _ ⟨J,W,iv,e⟩=>⟨v,h',J,r,a.quiet,W,iv,e⟩⟩
theorem Jv.mono {P:Program}{f:FuncId}{lo lo':Nat}{h:H}{args:List Value}{R R':Value->H->Prop}(a:Jv P f lo h args R) (hl:lo'<=lo) (hr:∀v h',R v h'->R' v h'):Jv P f lo' h args R':=
 ⟨a.enters,fun I w k i=>(a.calls I w k i).mono fun _ _ ⟨v,h',J,r,q,W,iv,e⟩=>⟨v,h',J,hr v h' r,q.mono hl,W.mono hl,iv,e⟩⟩

structure HS (P:Program) (fv:Value) (lo:Nat) (h:H) (args:List Value) (R:Value->H->Prop):Prop where
 run:∀(o:Oper) (c:Call) (ro:Option Nat) (a:Act) (I:Al) (w:World) (K:Act->World->Prop) (Q:Exit->Act->World->Prop),o.op= .call c->Mw a.eval o c (ren I fv)->
  c.args.toList.map a.eval=Ah I args->Rel I h w->In I fv->BH I args->(∀v h' J w',R v h'->Quiet lo h h'->BR I J lo h.next h' w w'->In J v->K (a.put o.dst (ren J v)) w')->o.wpIn (WR ro) 0 P a w K Q
theorem HS.mono {P:Program}{fv:Value}{lo lo':Nat}{h:H}{args:List Value}{R R':Value->H->Prop}(a:HS P fv lo h args R) (hl:lo'<=lo) (hr:∀v h',R v h'->R' v h'):HS P fv lo' h args R':=
 ⟨fun o c ro b I w K Q h1 h2 h4 h5 h6 h7 h8=>a.run o c ro b I w K Q h1 h2 h4 h5 h6 h7 fun v h' J w' r q W i=>h8 v h' J w' (hr v h' r) (q.mono hl) (W.mono hl) i⟩
theorem Jv.ju {P:Program}{lo:Nat}{g:FuncId}{first BL args:List Value}{h:H}{R:Value->H->Prop}(hcall:Jv P g lo h (first++args++BL) R):HS P (.func (.func g) ⟨first⟩ ⟨BL⟩) lo h args R:=by
 refine⟨fun o c ro a I w K Q ho ef Mi k iF Mt hK=>?_⟩
 simp only[ren,DY,In,Gn,true_and]at ef iF
 refine Jc (fun c' e=>by rw[ho]at e;simp at e) (Py ho ef hcall.enters) ?_
 have NW:((⟨Ah I first⟩:Array Value)++c.args.map a.eval++⟨Ah I BL⟩)=⟨Ah I (first++args++BL)⟩:=by
  apply Array.ext'
  simp[BM,Mi]
 rw[NW]
 refine(hcall.calls I w k (by rw[B4,B4];exact⟨⟨iF.1,Mt⟩,iF.2⟩)).mono ?_
 rintro e w1 ⟨v,h',J,r,q,AV,hin,rfl⟩
 exact⟨_,rfl,hK v h' J w1 r q AV hin⟩

def RunD (P:Program) (lo:Nat) (base:Nat):Nat->List Ao->(Ts->H->Prop)->Ts->H->Prop
 |_,[],K,ts,h=>K ts h
 | i,o::rest,K,ts,h=>
   if BF ts o.guard=true then
    match o.ins with
    |.op ao=>∃v h',BZ P lo (base+i) ts h ao=some (v,h')/\RunD P lo base (i+1) rest K (EY ts v o.dst) h'
    |.call f args=>HS P (ev ts f) lo h (args.map (ev ts)) fun v h'=>RunD P lo base (i+1) rest K (EY ts v o.dst) h'
   else RunD P lo base (i+1) rest K (EY ts undef o.dst) h

section
variable {P:Program}{ro:Option Nat}{n lo base:Nat}
theorem Ip {ops:Array Oper}{xs:List Ao}{K:Ts->H->Prop}(hx:Cf P n ops ops.toList=some xs) (hlo:lo<=base):∀(m i:Nat),i+m=xs.length->∀(ts:Ts) (h:H),base+xs.length<=h.next->RunD P lo base i (xs.drop i) K ts h->
 ∀ro I w a,Rel I h w->Bv I n ts a.tmps->(∀j,i<=j->j<xs.length->¬I.dom (base+j))->∀Q:Exit->Act->World->Prop,
  (∀ts' h' J w' a',K ts' h'->Quiet lo h h'->BR I J lo base h' w w'->Bv J n ts' a'.tmps->a'.defers=a.defers->Q .normal a' w')->wpOpsIn (WR ro) 0 P ops Q (List.range' i m) a w
 | 0,i,hi,ts,h,hn,hr=>by
   rw[List.drop_of_length_le (by omega)]at hr
   intro ro I w a k t _ Q hQ
   simp only[List.range'_zero,wpOpsIn]
   exact hQ ts h I w a hr (Quiet.refl _ _) (BR.refl k) t rfl
 | m + 1,i,hi,ts,h,hn,hr=>by
   obtain⟨hlen,hget⟩:=BN hx
   have hil:i<xs.length:=by omega
   have lj:i<ops.toList.length:=by omega
   obtain⟨x,hxi,hxo⟩:=hget i ops.toList[i] (List.getElem?_eq_getElem lj)
   have hoi:ops[i]? =some ops.toList[i]:=by rw[<-Array.getElem?_toList];exact List.getElem?_eq_getElem lj
   generalize ops.toList[i]=o at hxo hoi
   rw[List.drop_eq_getElem_cons hil]at hr
   have hxe:xs[i]=x:=by rw[List.getElem?_eq_getElem hil]at hxi;simpa using hxi
   rw[hxe]at hr
   simp only[KW,Option.bind_eq_some_iff]at hxo
   obtain⟨gd,hgd,ins,hins,hxo⟩:=hxo
   split at hxo
   ·rename_i hok
    simp only[Bool.and_eq_true]at hok
    simp only[Option.some.injEq]at hxo
    subst hxo
    simp only[RunD]at hr
    have hdef:=Gc hins
    have hm:i+1+m=xs.length:=by omega
    split at hr
    ·rename_i hw
     cases ins with
     | op ao=>
       simp only at hr
       obtain⟨v,h1,ha,hr⟩:=hr
       have hnx:=Te ha
       have hq:=LU ha (Av:=base+i) (by omega) (by omega)
       have hrest:=Ip hx hlo m (i+1) hm _ _ (by rw[hnx];exact hn) hr
       intro ro I w a k t hfr Q hQ
       obtain⟨J,w1,nx,⟨hg,hdom,hold⟩,hrel,hin,hext,hrun,gI⟩:=TE t.ev hins hok.1 k (hfr i (Nat.le_refl i) hil) (by omega) (by omega) ha
       rw[List.range'_succ]
       simp only[wpOpsIn,hoi,EC t hgd,hw,if_true]
       refine FW (v:=ren J v) hdef hrun (gI.imp id (fun e=>⟨e.1,by rw[e.2];exact(BV J).1⟩)) ?_
       refine hrest ro J w1 _ hrel ((t.le hg.le).put hin hok.2) (fun j hj hjl d=>?_) Q (fun ts' h' J' w' a' hK hq' hw' t' hd'=>?_)
       ·rcases hdom _ d with d|d
        ·exact hfr j (by omega) hjl d
        ·omega
       ·refine hQ ts' h' J' w' a' hK (hq.trans hq') ?_ t' (hd'.trans (Act.Cd a o.dst (ren J v)))
        exact BR.trans ⟨hg,fun r d=>(hdom r d).imp id (fun e=>by omega),hold,hrel,hext⟩ hw' (Nat.le_refl _)
     | call f args=>
       simp only at hr
       intro ro I w a k t hfr Q hQ
       obtain⟨c,ho,hcf,hcas⟩:=Jp hins
       obtain⟨ef,iF⟩:=hcf I ts _ t.ev
       obtain⟨Mi,Mt⟩:=Ho t.ev hcas
       rw[List.range'_succ]
       simp only[wpOpsIn,hoi,EC t hgd,hw,if_true]
       refine hr.run o c ro a I w _ Q ho ef Mi k iF Mt fun v h1 J w1 hr hq AV hin=>?_
       have hrest:=Ip hx hlo m (i+1) hm _ _ (Nat.le_trans hn hq.next) hr
       refine hrest ro J w1 _ AV.rel ((t.le AV.grows.le).put hin hok.2) (fun j hj hjl d=>?_) Q (fun ts' h' J' w' a' hK hq' hw' t' hd'=>?_)
       ·rcases AV.dom _ d with d|d
        ·exact hfr j (by omega) hjl d
        ·omega
       ·refine hQ ts' h' J' w' a' hK (hq.trans hq') ?_ t' (hd'.trans (Act.Cd a o.dst (ren J v)))
        exact BR.trans ⟨AV.grows,fun r d=>(AV.dom r d).imp id (fun e=>by omega),AV.old,AV.rel,AV.ext⟩ hw' (Nat.le_refl _)
    ·rename_i hw
     have hrest:=Ip hx hlo m (i+1) hm _ _ hn hr
     intro ro I w a k t hfr Q hQ
     rw[List.range'_succ]
     have hw':BF ts gd=false:=by simpa using hw
     simp only[wpOpsIn,hoi,EC t hgd,hw',Bool.false_eq_true,if_false]
     refine⟨fun _ _=>trivial,?_⟩
     have hu:=(BV I)
     have tp:=t.put (v:=undef) hu.2 hok.2
     rw[hu.1]at tp
     exact hrest ro I w _ k tp (fun j hj hjl=>hfr j (by omega) hjl) Q (fun ts' h' J' w' a' hK hq' hw' t' hd'=>hQ ts' h' J' w' a' hK hq' hw' t' (hd'.trans (Act.Cd a o.dst undef)))
   ·simp at hxo

theorem WD.reg {tp:Bool}{id:Nat}{ops:Array Oper}{xs:List Ao}{Q:Exit->Ts->H->Prop}{ts:Ts}{h:H}(hx:Cf P n ops ops.toList=some xs) (hlo:lo<=h.next) (hr:RunD P lo h.next 0 xs (Q .normal) ts (h.bump xs.length)):
 WD (TC tp P (.region id ops false)) n lo Q ts h:=by
 have hlen:=(BN hx).1
 have hrest:=Ip hx hlo xs.length 0 (by omega) ts (h.bump xs.length) (Nat.le_refl _) (by simpa using hr)
 intro ro I w a k t _
 refine wpIn_region ?_
 have:=hrest ro I w a (k.bump _) t (fun j _ _ d=>by have:=k.lt _ d;omega) (fun e' a' w'=>∃ts' h' J,Q e' ts' h'/\Quiet lo h h'/\BR I J lo h.next h' w w'/\Bv J n ts' a'.tmps/\∃ms,a'.defers=ms++a.defers/\Marks J w w' ms)
  (fun ts' h' J w' a' hK hq hw t' hd=>⟨ts',h',J,hK,⟨Nat.le_trans (Nat.le_add_right _ _) hq.next,hq.same,fun hc=>hq.clean fun r hr=>hc r (Nat.le_trans (Nat.le_add_right _ _) hr)⟩,hw,t',[],hd,Marks.nil _ _ _⟩)
 rw[List.range_eq_range',show ops.size=xs.length by rw[hlen];simp]
 exact this
end
theorem WD.range {P:Program}{n lo:Nat}{Q:Exit->Ts->H->Prop}{ts:Ts}{h:H}{f:Operand}{f':AP}{g:FuncId}{first BL:List Value}{ps:List Nat}{CB body:Code}(hf:AJ f=some f') (hv:ev ts f'= .func (.func g) ⟨first⟩ ⟨BL⟩) (hlo:lo<=h.next)
 (ha:Jv P g lo (h.enter (FD n ts ps CB body)) (first++[.func (.yield h.next) ⟨[]⟩ ⟨[]⟩]++BL) fun v h'=>∃L,h'.get h.next=some (.loop L)/\L.state≠ .busy/\Q (F0 L.pend) ts (h'.put h.next .gone)):
 WD (TC true P (.rangeFunc f ⟨ps⟩ CB body)) n lo Q ts h:=by
 intro ro I w a k t htp
 have hro:=htp rfl
 subst hro
 refine wpIn_rangeFunc fun fn _=>?_
 let w0:=w.alloc (.deferred (some []))
 let ob:Obj:=.loop {state:=.ready,pending:=none,fn:=fn,tmps:=a.tmps,params:=⟨ps⟩,assign:=CB,body:=body,defers:=w.heap.size}
 have hsz0:w0.heap.size=w.heap.size+1:=by simp[w0]
 have k0:Rel I h w0:=k.aside _
 have hnd:¬I.dom h.next:=fun d=>by have:=k.lt _ d;omega
 have hle:Le I (I.plus h.next none w0.heap.size 0):=Le.plus (Dh hnd none)
 have k1:Rel (I.plus h.next none w0.heap.size 0) (h.enter (FD n ts ps CB body)) (w0.alloc ob):=by
  refine(k0.bump 1).new hnd (by simp[H.bump]) none 0 ob ?_
  exact⟨w0.heap.size,a.tmps,w.heap.size,fn,Al.Ax ..,k0.base,t.le hle,by rw[heap_alloc];rfl⟩
 obtain⟨ef,iF⟩:=t.ev f f' hf
 rw[hv]at ef iF
 obtain⟨mq,kU⟩:=hle.ren _ iF
 simp only[ren,DY]at ef
 have hev:∀x:Operand,({a with defers:=[({target:=.collected w.heap.size,args:= #[]}:Deferred)]++a.defers}:Act).eval x=a.eval x:=fun x=>by cases x<;>rfl
 refine⟨w0.heap.size,[{target:=.collected w.heap.size,args:= #[]}],w0.alloc ob,{target:=.fn (.func g) ⟨Ah I BL⟩,args:=⟨Ah I first⟩++ #[.func (.yield w0.heap.size) #[] #[]]},w0.alloc ob,g,⟨Ah (I.plus h.next none w0.heap.size 0) (first++[.func (.yield h.next) ⟨[]⟩ ⟨[]⟩]++BL)⟩,w0.alloc ob,?_,?_,fun _ _=>trivial,?_,fun _=>by simp[WR,Fence.wide]at*,?_⟩
 ·simp[Instr.enterLoop,WR,Fence.wide,w0,ob]
 ·have gN:∀v,a.eval (.const v)=v:=fun v=>rfl
  simp[resolve,rangeCall,ef,gN,Deferred.ofValue]
 ·have hargs:((⟨Ah I first⟩:Array Value)++ #[.func (.yield w0.heap.size) #[] #[]]++⟨Ah I BL⟩)=⟨Ah (I.plus h.next none w0.heap.size 0) (first++[.func (.yield h.next) ⟨[]⟩ ⟨[]⟩]++BL)⟩:=by
   simp only[In,Gn,true_and]at iF
   apply Array.ext'
   simp[BM,(hle.Ah _ iF.1).1,(hle.Ah _ iF.2).1,Ah,ren,DY,Al.blk,Al.Ax]
  simp only[invoke]
  rw[hargs]
  exact ha.enters _ _
 ·refine JZ ((ha.calls _ _ k1 ?_).mono ?_)
  ·simp only[In,Gn,true_and]at iF
   rw[B4,B4]
   exact⟨⟨(hle.Ah _ iF.1).2,by simp only[BH,In,Gn,and_true];exact⟨_,Al.Ax ..⟩⟩,(hle.Ah _ iF.2).2⟩
  ·rintro e w3 ⟨v,h',J,⟨L,hL,hs,q⟩,rR,W,iv,rfl⟩
   have hq:=(Quiet.enter hlo (FD n ts ps CB body)).trans rR
   have hnx:h.next<h'.next:=Nat.lt_of_lt_of_le (by simp[H.enter,H.bump,H.put]) rR.next
   have hat:J.at_ h.next none=some (w0.heap.size,0):=W.grows.le.at_ _ _ _ (Al.Ax ..)
   obtain⟨tmps,db,fn',e2,e3,e4⟩:=EO W.rel hL hat
   have B2:=But.set w3 w0.heap.size (.loop {state:=.exhausted,pending:=C1 L.pend,fn:=fn',tmps,params:=⟨L.params⟩,assign:=L.CB,body:=L.body,defers:=db})
   refine⟨C1 L.pend,{w3 with heap:=w3.heap.setIfInBounds w0.heap.size (.loop {state:=.exhausted,pending:=C1 L.pend,fn:=fn',tmps,params:=⟨L.params⟩,assign:=L.CB,body:=L.body,defers:=db})},?_,?_⟩
   ·simp[Instr.endLoop,Instr.getLoop,getObj,setObj,Sem.run,e4]
    cases hst:L.state<;>first|exact absurd hst hs|simp
   ·refine Vm (Q:=fun e' a' w'=>∃ts' h' J,Q e' ts' h'/\Quiet lo h h'/\BR I J lo h.next h' w w'/\Bv J n ts' a'.tmps/\∃ms,a'.defers=ms++a.defers/\Marks J w w' ms) (ro:=none) ⟨ts,_,J,q,hq.trans (Quiet.put hlo hnx),?_,?_,[{target:=.collected w.heap.size,args:= #[]}],rfl,?_⟩
    ·have hrel:Rel J (h'.put h.next .gone) _:=W.rel.store e2 ⟨_,_,hat⟩ B2 trivial
     have hold:∀r s p,r<lo->J.at_ r s=some p->I.at_ r s=some p:=fun r s p hr e=>by
      have:=W.old r s p hr e
      rwa [Al.Ay (by omega)]at this
     have hgr:BA I J w:=by
      refine⟨hle.trans W.grows.le,fun r s b d e=>?_⟩
      have Sy:∀r s b d,(I.plus h.next none w0.heap.size 0).at_ r s=some (b,d)->I.at_ r s=some (b,d)\/w.heap.size<=b:=fun r s b d e=>by
       by_cases hr:r=h.next/\s=none
       ·obtain⟨rfl,rfl⟩:=hr
        rw[Al.Ax]at e
        simp only[Option.some.injEq,Prod.mk.injEq]at e
        omega
       ·rw[Al.Ay hr]at e
        exact .inl e
      rcases W.grows.new r s b d e with e|e|⟨s',d',e⟩
      ·exact(Sy _ _ _ _ e).imp id .inl
      ·simp only[World.alloc]at e
       have:w0.heap.size<=b:=by simp at e;omega
       exact .inr (.inl (by omega))
      ·rcases Sy _ _ _ _ e with e|e
       ·exact .inr (.inr ⟨_,_,e⟩)
       ·exact .inr (.inl e)
     refine⟨hgr,fun r d=>?_,hold,hrel,?_⟩
     ·rcases W.dom r d with d|d
      ·rcases Al.BI d with d|rfl
       ·exact .inl d
       ·exact .inr (Nat.le_refl _)
      ·exact .inr (by simp[H.enter,H.bump,H.put]at d;omega)
     ·have x1:=(Ext.alloc I lo w (.deferred (some [])))
      have x2:=x1.trans (BA.refl I w) (Ext.alloc I lo w0 ob)
      refine⟨?_,?_,?_,?_,fun b hb hx=>?_⟩
      ·rw[B2.os,W.ext.os,x2.os]
      ·rw[B2.tape,W.ext.tape,x2.tape]
      ·rw[B2.output,W.ext.output,x2.output]
      ·rw[B2.size];exact Nat.le_trans x2.size W.ext.size
      ·rw[B2.block b (by omega),W.ext.block b (by have:=x2.size;omega) (fun r s d e hbase=>?_),x2.block b hb hx]
       by_cases hr:r=h.next/\s=none
       ·obtain⟨rfl,rfl⟩:=hr
        rw[Al.Ax]at e
        simp only[Option.some.injEq,Prod.mk.injEq]at e
        omega
       ·rw[Al.Ay hr]at e
        exact hx r s d e hbase
    ·exact t.le (hle.trans W.grows.le)
    ·have hb0:(w0.alloc ob).heap[w.heap.size]? =some (.deferred (some [])):=by
      rw[heap_alloc_old w0 ob (by omega)];exact heap_alloc w _
     have hout:∀r s d,(I.plus h.next none w0.heap.size 0).at_ r s≠some (w.heap.size,d):=fun r s d e=>by
      by_cases hr:r=h.next/\s=none
      ·obtain⟨rfl,rfl⟩:=hr
       rw[Al.Ax]at e
       simp only[Option.some.injEq,Prod.mk.injEq]at e
       omega
      ·rw[Al.Ay hr]at e
       have:=k.size _ _ _ _ e
       omega
     have hsz1:(w0.alloc ob).heap.size=w.heap.size+2:=by simp[hsz0]
     refine⟨fun m hm=>?_,by simp⟩
     simp only[List.mem_singleton]at hm
     subst hm
     refine⟨w.heap.size,rfl,Nat.le_refl _,?_,?_,fun r s d e=>?_⟩
     ·rw[B2.size];have:=W.ext.size;omega
     ·rw[B2.block _ (by omega),W.ext.block _ (by omega) (fun r s d e=>absurd e (hout r s d)),hb0]
     ·rcases W.grows.new r s _ d e with e|e|⟨s',d',e⟩
      ·exact hout _ _ _ e
      ·omega
      ·exact hout _ _ _ e

def vC (P:Program) (lo r:Nat) (CB body:Code) (size:Nat) (args:List Value) (ps:List Nat) (tmps:Ts) (h:H) (R:Value->H->Prop):Prop:=
 WD (TC false P CB) size lo (fun e FC h1=>e= .normal/\∃L1,h1.get r=some (.loop L1)/\L1.state= .ready/\
  WD (TC false P body) size lo (fun e _ h2=>∃p L2,roundEnd e=some p/\h2.get r=some (.loop L2)/\R (.bool (Ku p)) (h2.put r (.loop (ended L2 p)))) FC (h1.put r (.loop (busy L1)))) (Gr ps args tmps) h

theorem Rp {P:Program}{lo:Nat}{h:H}{r:Nat}{L:DN}{args:List Value}{R:Value->H->Prop}(hg:h.get r=some (.loop L)) (hlo:lo<=r) (hr:r<h.next) (hlen:args.length=L.params.length) (hps:∀p∈L.params,p<L.size)
 (hw:vC P lo r L.CB L.body L.size args L.params L.tmps h R):HS P (.func (.yield r) ⟨[]⟩ ⟨[]⟩) lo h args R:=by
 refine⟨fun o c ro a I w K Q ho ef Mi k iF Mt hK=>?_⟩
 simp only[In,Gn]at iF
 obtain⟨⟨l,hat⟩, -⟩:=iF
 obtain⟨tmps,db,fn,eb,ZL,ew⟩:=EO k hg hat
 have hdef:∀c',o.op≠ .defer c':=fun c' e=>by rw[ho]at e;simp at e
 have hblk:I.blk r=l:=by simp[Al.blk,hat]
 simp only[ren,DY,hblk,Ah]at ef
 unfold Mw at ef
 have NW:c.args.map a.eval=⟨Ah I args⟩:=by apply Array.ext';simp[Mi]
 have D5:(execOp a.eval o).run P w= .ok (.round l fn ((L.params.zip (Ah I args)).foldl (fun tmps (t,a)=>tmps.setIfInBounds t a) tmps) L.CB L.body) w:=by
  have hsz:(Ah I args).length=L.params.length:=by rw[Bp,hlen]
  simp[execOp,ho,ef,Deferred.ofValue,invoke,Instr.yield,Instr.getLoop,getObj,Sem.run,ew,NW,hsz]
 refine⟨fun _ _=>trivial,?_⟩
 rw[Oper.semAt_eq _ _ _ hdef,D5,Oper.uponIn_round]
 refine⟨fun h=>by simp[WR,Fence.wide]at h,roundIn_of_wpIn trivial ?_⟩
 have ht0:=Bv.Gr L.params args L.tmps tmps ZL hps Mt
 have hF:(WR ro).inRound l=WR (some l):=rfl
 rw[hF]
 refine Go.wpIn_mono (hw (some l) I w {tmps:=_,defers:=[]} k ht0 (by simp)) ?_
 rintro e a1 w1 ⟨FC,h1,J1,⟨rfl,L1,hg1,gH,gb⟩,hq1,W1,t1,ms1, -, -⟩
 have hn1:r<h1.next:=Nat.lt_of_lt_of_le hr hq1.next
 have Us:J1.at_ r none=some (l,0):=W1.grows.le.at_ _ _ _ hat
 obtain⟨U6,vo,u6,vi,iZ,iW⟩:=EO W1.rel hg1 Us
 have S1:=KB (L':=busy L1) W1.rel hg1 Us hlo rfl rfl rfl rfl rfl _ iW
 refine⟨_,?_,Go.wpIn_mono (gb (some l) J1 _ a1 S1.rel t1 (by simp)) ?_⟩
 ·rw[gH]at iW
  simp[Instr.beginRound,Instr.getLoop,getObj,setObj,Sem.run,iW,busy]
 ·rintro e a2 w2 ⟨Wm,h2,J2,⟨p,L2,hp,hg2,hR⟩,hq2,W2,t2,ms2, -, -⟩
  have hn2:r<h2.next:=Nat.lt_of_lt_of_le hn1 hq2.next
  have ZB:J2.at_ r none=some (l,0):=W2.grows.le.at_ _ _ _ Us
  obtain⟨jS,vn,qU,vg,iY,mj⟩:=EO W2.rel hg2 ZB
  have S2:=KB (L':=ended L2 p) W2.rel hg2 ZB hlo rfl rfl rfl rfl rfl _ mj
  have hend:=KQ (P:=P) (p:=p) mj
  have hfin:=hK _ _ J2 _ hR ((hq1.trans (Quiet.put hlo hn1)).trans (hq2.trans (Quiet.put hlo hn2))) (((W1.trans S1 hq1.next).trans W2 (Nat.le_trans hq1.next (Nat.le_refl _))).trans S2 (Nat.le_trans hq1.next hq2.next)) (by simp[In])
  simp only[ren]at hfin
  cases e<;>simp only[roundEnd,Option.some.injEq,reduceCtorEq]at hp
  all_goals subst hp;exact⟨_,_,hend,hfin⟩
end AE

/- Calls of methods of values of interfaces. -/
namespace AE
open Go Go.RowKit
set_option linter.unusedVariables false
set_option linter.unusedSimpArgs false

def Pb (P:Program) (t:TypeId) (nm:String):Option FuncId:=
 (P.info? t).bind fun i=>(i.methods.find? (·.name==nm)).bind fun m=>if m.path.toList=[]then m.func.bind fun p=>
  match P.underlying t,p.2 with
  |some (.pointer _),true=>some p.1
  |some (.pointer _),false=>none
  |some _,false=>some p.1
  |_,_=>none
 else none
theorem O9 {P:Program}{t:TypeId}{nm:String}{g:FuncId}(h:Pb P t nm=some g) (v:Value) (k:Nat):Au P (method (k+1) t v nm)=some (g,v):=by
 unfold Pb at h
 simp only[Option.bind_eq_some_iff]at h
 obtain⟨i,hi,m,hm,h⟩:=h
 split at h
 ·rename_i hp
  simp only[Option.bind_eq_some_iff]at h
  obtain⟨⟨f,p⟩,hf,h⟩:=h
  have hpe:m.path.isEmpty=true:=by
   have:m.path= #[]:=by apply Array.ext';simpa using hp
   simp[this]
  split at h
  ·rename_i e e1 e2
   simp only at e2;subst e2
   simp at h;subst h
   simp only[method,typeInfo,AL,Ep,Option.bind_some,B1,hi,hm,hp,follow,hf,receiverAt,underlying,e1,Place.get]
  ·simp at h
  ·rename_i d hd1 e1 e2
   simp only at e2;subst e2
   simp at h;subst h
   simp only[method,typeInfo,AL,Ep,Option.bind_some,B1,hi,hm,hp,follow,hf,receiverAt,underlying,e1,Place.get]
  ·simp at h
 ·simp at h
theorem AF.method {P:Program}{g:FuncId}{nm:String}{t:TypeId}{lo:Nat}{h h':H}{v r:Value}{args:List Value}(hm:Pb P t nm=some g) (hcall:AF P g lo h (v::args) r h'):Eg P (.func (.method nm) ⟨[.iface t v]⟩ ⟨[]⟩) lo h args r h':=by
 refine⟨hcall.quiet,fun o c ro a I w K Q ho ef Mi k iF Mt hK=>?_⟩
 simp only[ren,DY,Ah,In,Gn,BH,true_and,and_true]at ef iF
 have hex:(execOp a.eval o).run P w= .ok (.enter g (#[ren I v]++c.args.map a.eval)) w:=by
  unfold Mw at ef
  have hmr:=DZ P _ _ (O9 hm (ren I v) (P.types.size+Made.depth - 1)) w
  have e1:P.types.size+Made.depth - 1+1=P.types.size+Made.depth:=by unfold Made.depth;omega
  rw[e1]at hmr
  have h0:((⟨[Value.iface t (ren I v)]⟩:Array Value)++Array.map a.eval c.args)[0]? =some (.iface t (ren I v)):=by rw[<-Array.getElem?_toList,Array.toList_append];rfl
  have h1:(Array.map a.eval c.args).extract 0 c.args.size=Array.map a.eval c.args:=Array.extract_eq_self_of_le (by simp)
  have he:=hcall.enters
  simp only[execOp,ho,ef,Deferred.ofValue,invoke,callMethod,program]
  simp only[h0,h1,callMethod,program,Sem.run_bind,Sem.run_pure,pure_bind,Array.extract_size]
  have hp:Sem.run P (Sem.program Sem.pure) w= .ok P w:=rfl
  simp[hp,hmr,he,h1]
 refine Jc (fun c' e=>by rw[ho]at e;simp at e) hex ?_
 have NW:(#[ren I v]++c.args.map a.eval)=⟨Ah I (v::args)⟩:=by
  apply Array.ext'
  simp[Ah,Mi]
 rw[NW]
 refine(hcall.calls I w k (by simp only[BH];exact⟨iF,Mt⟩)).mono ?_
 rintro e w1 ⟨J,AV,hin,rfl⟩
 exact⟨_,rfl,hK J w1 AV hin⟩
theorem Jv.method {P:Program}{g:FuncId}{nm:String}{t:TypeId}{lo:Nat}{h:H}{v:Value}{args:List Value}{R:Value->H->Prop}(hm:Pb P t nm=some g) (hcall:Jv P g lo h (v::args) R):HS P (.func (.method nm) ⟨[.iface t v]⟩ ⟨[]⟩) lo h args R:=by
 refine⟨fun o c ro a I w K Q ho ef Mi k iF Mt hK=>?_⟩
 simp only[ren,DY,Ah,In,Gn,BH,true_and,and_true]at ef iF
 have hex:(execOp a.eval o).run P w= .ok (.enter g (#[ren I v]++c.args.map a.eval)) w:=by
  unfold Mw at ef
  have hmr:=DZ P _ _ (O9 hm (ren I v) (P.types.size+Made.depth - 1)) w
  have e1:P.types.size+Made.depth - 1+1=P.types.size+Made.depth:=by unfold Made.depth;omega
  rw[e1]at hmr
  have h0:((⟨[Value.iface t (ren I v)]⟩:Array Value)++Array.map a.eval c.args)[0]? =some (.iface t (ren I v)):=by rw[<-Array.getElem?_toList,Array.toList_append];rfl
  have h1:(Array.map a.eval c.args).extract 0 c.args.size=Array.map a.eval c.args:=Array.extract_eq_self_of_le (by simp)
  have he:=hcall.enters
  simp only[execOp,ho,ef,Deferred.ofValue,invoke,callMethod,program]
  simp only[h0,h1,callMethod,program,Sem.run_bind,Sem.run_pure,pure_bind,Array.extract_size]
  have hp:Sem.run P (Sem.program Sem.pure) w= .ok P w:=rfl
  simp[hp,hmr,he,h1]
 refine Jc (fun c' e=>by rw[ho]at e;simp at e) hex ?_
 have NW:(#[ren I v]++c.args.map a.eval)=⟨Ah I (v::args)⟩:=by
  apply Array.ext'
  simp[Ah,Mi]
 rw[NW]
 refine(hcall.calls I w k (by simp only[BH];exact⟨iF,Mt⟩)).mono ?_
 rintro e w1 ⟨v,h',J,r,q,AV,hin,rfl⟩
 exact⟨_,rfl,hK v h' J w1 r q AV hin⟩
end AE

/- Arguments that come in: values of any shape of numbers, truth values, strings, structs, arrays, slices, laid as_ rows that are only read. -/
namespace AE
open Go Go.RowKit Go.ChangeShapes Go.WideShapes


inductive Sh where
 |int (k:IntKind)
 |bool
 |str
 |nil
 |cons (a b:Sh)
 |slice (e:Sh)
def Sh.size:Sh->Nat
 |.int _|.bool|.str|.slice _=>1
 |.nil=>0
 |.cons a b=>a.size+b.size
def Sh.rep (s:Sh):Nat->Sh
 |0=>.nil
 |n+1=>.cons s (s.rep n)
mutual
inductive FP (P:Program):Sh->TypeId->Prop
 |int {k:IntKind} {t:TypeId} (ht:P.underlying t=some (.int k)):FP P (.int k) t
 |bool {t:TypeId} (ht:P.underlying t=some .bool):FP P .bool t
 |str {t:TypeId} (ht:P.underlying t=some .string):FP P .str t
 |slice {s:Sh} {t e:TypeId} (ht:P.underlying t=some (.slice e)) (hc:P.cellsOf e=s.size) (h0:0<s.size) (h:FP P s e):FP P (.slice s) t
 |struct {s:Sh} {t:TypeId} {fs:Array Field} (ht:P.underlying t=some (.struct fs)) (hc:P.cellsOf t=s.size) (h:Fields P s fs.toList 0):FP P s t
 |arr {s:Sh} {t e:TypeId} {n:Nat} (ht:P.underlying t=some (.array n e)) (hc:P.cellsOf e=s.size) (hct:P.cellsOf t=n*s.size) (h:FP P s e):FP P (s.rep n) t
inductive Fields (P:Program):Sh->List Field->Nat->Prop
 |nil {off:Nat}:Fields P .nil [] off
 |cons {a b:Sh} {f:Field} {fs:List Field} {off:Nat} (ho:f.offset=off) (hc:P.cellsOf f.type=a.size) (h:FP P a f.type) (r:Fields P b fs (off+a.size)):Fields P (.cons a b) (f::fs) off
end

def Fits (h:H) (m:Nat):Sh->List Value->Prop
 |.int k,cs=>∃n,cs=[.int k n]/\k.min<=n/\n<=k.max
 |.bool,cs=>∃b,cs=[.bool b]
 |.str,cs=>∃s:ByteArray,cs=[.string s]/\s.size<=maxLen
 |.nil,cs=>cs=[]
 |.cons a b,cs=>∃c1 c2,cs=c1++c2/\Fits h m a c1/\Fits h m b c2
 |.slice e,cs=>∃b a n c,cs=[.slice b n c]/\n<=c/\(c<=maxLen\/(far<=c/\n=0))/\(0<n->b=some a)/\(0<n->a.block<m/\a.spot=none)/\((b=none/\c=0)\/(∃a',b=some a'/\c=far)\/∃a',b=some a'/\a'.block<m/\h.Az a' 0=some []/\a'.spot=none/\c<=maxLen)/\
  ∀i,i<n->∃l,h.Az (BB a (i*e.size)) e.size=some l/\Fits h m e l
theorem Fits.same {h h':H}{m m':Nat}(s:Same m h h') (hm:m<=m'):∀{sh:Sh} {cs:List Value},Fits h m sh cs->Fits h' m' sh cs
 |.int _,_,k=>k
 |.bool,_,k=>k
 |.str,_,k=>k
 |.nil,_,k=>k
 |.cons a b,_,⟨c1,c2,e,k1,k2⟩=>⟨c1,c2,e,k1.same s hm,k2.same s hm⟩
 |.slice e,_,⟨b,a,n,c,e1,e2,e3,e4,e5,e6,e7⟩=>⟨b,a,n,c,e1,e2,e3,e4,fun h=>⟨Nat.lt_of_lt_of_le (e5 h).1 hm,(e5 h).2⟩,e6.imp id (Or.imp id fun⟨a',f1,f2,f3,f4⟩=>⟨a',f1,Nat.lt_of_lt_of_le f2 hm,by rw[s.Az f2];exact f3,f4⟩),fun i hi=>by
  obtain⟨l,h1,h2⟩:=e7 i hi
  exact⟨l,by rw[s.Az (a:=BB a (i*e.size)) (e5 (by omega)).1];exact h1,h2.same s hm⟩⟩
theorem Fits.length {h:H}{m:Nat}:∀{sh:Sh} {cs:List Value},Fits h m sh cs->cs.length=sh.size
 |.int _,_,⟨_,e,_⟩=>by rw[e];rfl
 |.bool,_,⟨_,e⟩=>by rw[e];rfl
 |.str,_,⟨_,e,_⟩=>by rw[e];rfl
 |.nil,_,e=>by rw[e];rfl
 |.cons a b,_,⟨c1,c2,e,k1,k2⟩=>by rw[e,List.length_append,k1.length,k2.length];rfl
 |.slice e,_,⟨b,a,n,c,e1,_⟩=>by rw[e1];rfl


theorem cx {I:Al}{h:H}{W:World}(k:Rel I h W) (hb:I.base=W.heap.size) {b d:Nat}{c:List Value}(hlt:b<W.heap.size) (hi:BH I c) (hc:∀i v,c[i]? =some v->W.cell? ⟨b,d+i,none⟩=some (ren I v)):
 Le I (I.lay h.next b d)/\Rel (I.lay h.next b d) ((h.bump 1).put h.next (.ro c)) W:=by
 have hnd:¬I.dom h.next:=fun x=>by have:=k.lt _ x;omega
 have hle:Le I (I.lay h.next b d):=by
  refine⟨fun r s p e=>?_,fun _ _ _ _=>rfl,rfl⟩
  simp only[Al.lay]
  rw[if_neg]
  ·exact e
  ·rintro⟨rfl,rfl⟩;exact hnd ⟨_,_,e⟩
 refine⟨hle,fun r row e dm=>?_,fun r dm=>?_,fun r s b' d' e=>?_,by simp[Al.lay,hb],k.tabs,fun r r' s s' b1 d1 d2 e1 e2 h1=>?_,fun r hr=>?_⟩
 ·simp only[H.put]at e
  split at e
  ·rename_i hr
   subst hr
   simp only[Option.some.injEq]at e
   subst e
   refine⟨(hle.Ah c hi).2,b,d,Al.Uf ..,fun i v hv=>?_⟩
   rw[hc i v hv,(hle.ren v (Eb hi hv)).1]
  ·rename_i hr
   obtain⟨s,p,hp⟩:=dm
   have hp':I.at_ r s=some p:=by simp only[Al.lay]at hp;rwa [if_neg (fun x=>hr x.1)]at hp
   refine(k.rows r row e ⟨s,p,hp'⟩).le hle (fun s' p' e'=>?_) (fun _ _=>rfl)
   simp only[Al.lay]at e'
   rwa [if_neg (fun x=>hr x.1)]at e'
 ·obtain⟨s,p,hp⟩:=dm
  simp only[Al.lay]at hp
  split at hp
  ·rename_i hr;rw[hr.1];exact Nat.lt_succ_self _
  ·have:=k.lt r ⟨s,p,hp⟩;exact Nat.lt_succ_of_lt this
 ·simp only[Al.lay]at e
  split at e
  ·simp only[Option.some.injEq,Prod.mk.injEq]at e;omega
  ·exact k.size _ _ _ _ e
 ·simp only[Al.lay]at e1 e2 h1
  split at e1
  ·simp only[Option.some.injEq,Prod.mk.injEq]at e1;omega
  ·split at e2
   ·simp only[Option.some.injEq,Prod.mk.injEq]at e2;omega
   ·exact k.inj _ _ _ _ _ _ _ e1 e2 h1
 ·simp only[H.put,H.bump]at hr⊢
  rw[if_neg (by omega)]
  exact k.clean r (by omega)

structure Came (I:Al) (h:H) (W:World) (I':Al) (h':H):Prop where
 le:Le I I'
 base:I'.base=I.base
 rel:Rel I' h' W
 same:Same h.next h h'
 next:h.next<=h'.next
theorem Came.refl {I:Al}{h:H}{W:World}(k:Rel I h W):Came I h W I h:=⟨Le.refl I,rfl,k,Same.refl _ _,Nat.le_refl _⟩
theorem Came.trans {I I' sM:Al}{h h' h'':H}{W:World}(a:Came I h W I' h') (b:Came I' h' W sM h''):Came I h W sM h'':=
 ⟨a.le.trans b.le,b.base.trans a.base,b.rel,a.same.trans (b.same.mono a.next),Nat.le_trans a.next b.next⟩
structure Here (I:Al) (h:H) (s:Sh) (cs cs':List Value):Prop where
 fits:Fits h h.next s cs'
 inn:BH I cs'
 ren:Ah I cs'=cs
theorem Here.came {I I':Al}{h h':H}{W:World}{s:Sh}{cs cs':List Value}(k:Here I h s cs cs') (a:Came I h W I' h'):Here I' h' s cs cs':=
 ⟨k.fits.same a.same a.next,(a.le.Ah _ k.inn).2,by rw[(a.le.Ah _ k.inn).1];exact k.ren⟩

section
variable {P:Program}{T:Type}{enc:TypeId × Value->T}{W:World}
def Rd (enc:TypeId × Value->T) (P:Program) (W:World) (t:TypeId) (cs:List Value):Prop:=∃fuel y,DataW.trod enc P W 0 (fun _=>true) true fuel t cs=some y

def Lays (enc:TypeId × Value->T) (P:Program) (W:World) (s:Sh):Prop:=
 ∀t,FP P s t->∀cs,Rd enc P W t cs->∀I h,Rel I h W->I.base=W.heap.size->∃h' I' cs',Came I h W I' h'/\Here I' h' s cs cs'
def Tk (enc:TypeId × Value->T) (P:Program) (W:World) (s:Sh):Prop:=
 ∀fs off,Fields P s fs off->∀cs:List Value,cs.length=off+s.size->(∀f,f∈fs->Rd enc P W f.type ((cs.drop f.offset).take (P.cellsOf f.type)))->∀I h,Rel I h W->I.base=W.heap.size->∃h' I' cs',Came I h W I' h'/\Here I' h' s (cs.drop off) cs'

theorem Sm {s:Sh}(ih:Lays enc P W s) {e:TypeId}(hs:FP P s e):∀(n:Nat) (cs:List Value),cs.length=n*s.size->(∀i,i<n->Rd enc P W e ((cs.drop (i*s.size)).take s.size))->∀I h,Rel I h W->I.base=W.heap.size->
 ∃h' I' cs',Came I h W I' h'/\Here I' h' (s.rep n) cs cs'
 |0,cs,hl,_,I,h,k,hb=>⟨h,I,[],Came.refl k,rfl,by simp[BH],by rw[show cs=[]from List.eq_nil_of_length_eq_zero (by omega)];simp[Ah]⟩
 | n+1,cs,hl,hr,I,h,k,hb=>by
   obtain⟨h1,I1,c1,a1,k1⟩:=ih e hs _ (hr 0 (by omega)) I h k hb
   rw[Nat.add_mul,Nat.one_mul]at hl
   obtain⟨h2,I2,c2,a2,k2⟩:=Sm ih hs n (cs.drop s.size) (by rw[List.length_drop];omega) (fun i hi=>by
    have:=hr (i+1) (by omega)
    rw[List.drop_drop]
    rwa [show s.size+i*s.size=(i+1) *s.size by rw[Nat.add_mul];omega]) I1 h1 a1.rel (a1.base.trans hb)
   have k1':=k1.came a2
   refine⟨h2,I2,c1++c2,a1.trans a2,⟨c1,c2,rfl,k1'.fits,k2.fits⟩,B4.2 ⟨k1'.inn,k2.inn⟩,?_⟩
   rw[BM,k1'.ren,k2.ren,Nat.zero_mul,List.drop_zero,List.take_append_drop]

theorem Sn {s:Sh}(ih:Lays enc P W s) {e:TypeId}(hs:FP P s e) (c:Nat->List Value):∀(n:Nat),(∀i,i<n->Rd enc P W e (c i))->∀I h,Rel I h W->I.base=W.heap.size->
 ∃(h':H) (I':Al) (F:Nat->List Value),Came I h W I' h'/\∀i,i<n->Here I' h' s (c i) (F i)
 |0,_,I,h,k,hb=>⟨h,I,fun _=>[],Came.refl k,fun i hi=>by omega⟩
 | n+1,hr,I,h,k,hb=>by
   obtain⟨h1,I1,F,a1,k1⟩:=Sn ih hs c n (fun i hi=>hr i (by omega)) I h k hb
   obtain⟨h2,I2,c2,a2,k2⟩:=ih e hs _ (hr n (by omega)) I1 h1 a1.rel (a1.base.trans hb)
   refine⟨h2,I2,fun i=>if i=n then c2 else F i,a1.trans a2,fun i hi=>?_⟩
   by_cases hin:i=n
   ·subst hin;simp only[if_true];exact k2
   ·simp only[if_neg hin];exact(k1 i (by omega)).came a2
def H6 (F:Nat->List Value):Nat->List Value
 |0=>[]
 |n+1=>H6 F n++F n
theorem FM {F:Nat->List Value}{z:Nat}:∀{n:Nat},(∀i,i<n->(F i).length=z)->(H6 F n).length=n*z
 |0,_=>by simp[H6]
 |n+1,h=>by rw[H6,List.length_append,FM (fun i hi=>h i (by omega)),h n (by omega),Nat.add_mul,Nat.one_mul]
theorem LC {F:Nat->List Value}{z:Nat}:∀{n:Nat},(∀i,i<n->(F i).length=z)->∀i,i<n->((H6 F n).drop (i*z)).take z=F i
 |0,_,i,hi=>by omega
 | n +1,h,i,hi=>by
   have hl:=FM (F:=F) (z:=z) (n:=n) (fun i hi=>h i (by omega))
   rw[H6]
   by_cases hin:i=n
   ·subst hin
    rw[List.drop_append_of_le_length (by omega),List.drop_of_length_le (by omega),List.nil_append,List.take_of_length_le (by rw[h i (by omega)];omega)]
   ·have h1:i*z+z<=n*z:=by
     have:(i+1) *z<=n*z:=Nat.mul_le_mul_right _ (by omega)
     rw[Nat.add_mul]at this;omega
    rw[List.drop_append_of_le_length (by omega),List.take_append_of_le_length (by rw[List.length_drop];omega)]
    exact LC (fun i hi=>h i (by omega)) i (by omega)
theorem Xr {F:Nat->List Value}{z:Nat}{n:Nat}(h:∀i,i<n->(F i).length=z) {j:Nat}{v:Value}(hv:(H6 F n)[j]? =some v):∃i r,i<n/\r<z/\j=i*z+r/\(F i)[r]? =some v:=by
 have hlt:=(List.getElem?_eq_some_iff.1 hv).1
 have hl:=FM h
 have hz:0<z:=by
  rcases Nat.eq_zero_or_pos z with h0|h0
  ·rw[h0]at hl;omega
  ·exact h0
 have hi:j / z<n:=Nat.div_lt_of_lt_mul (by rw[Nat.mul_comm];omega)
 refine⟨j / z,j%z,hi,Nat.mod_lt _ hz,by rw[Nat.mul_comm];exact(Nat.div_add_mod j z).symm,?_⟩
 have hc:=LC h (j / z) hi
 rw[<-hc,List.getElem?_take,if_pos (Nat.mod_lt _ hz),List.getElem?_drop]
 rw[show j / z*z+j%z=j by rw[Nat.mul_comm];exact Nat.div_add_mod j z]
 exact hv
theorem SL {I:Al}{F:Nat->List Value}:∀{n:Nat},(∀i,i<n->BH I (F i))->BH I (H6 F n)
 |0,_=>by simp[H6,BH]
 |n+1,h=>B4.2 ⟨SL (fun i hi=>h i (by omega)),h n (by omega)⟩

theorem add_add' (a:Addr) (i j:Nat) (hs:a.spot=none):(a.add i).add j=⟨a.block,a.off+(i+j),none⟩:=by
 obtain⟨b,o,s⟩:=a
 simp only at hs
 subst hs
 unfold Addr.add
 by_cases h1:i=0<;>by_cases h2:j=0<;>simp[h1,h2,Nat.add_assoc]
theorem dc {a:Addr}{v:Value}(h:W.cell? a=some v):a.block<W.heap.size/\a.spot=none:=by
 unfold World.cell? at h
 split at h
 ·rename_i hh
  refine⟨(Array.getElem?_eq_some_iff.1 hh).1,?_⟩
  split at h
  ·cases h
  ·rename_i hs;simpa using hs
 ·cases h
theorem YZ {h:H}{r off n:Nat}{c l:List Value}(hg:h.get r=some (.ro c)) (hl:cut c off n=some l):h.Az ⟨r,off,none⟩ n=some l:=by
 simp[H.Az,hg,Br,hl]
theorem add_zero' (a:Addr):a.add 0=a:=by simp[Addr.add]

theorem Ue {s:Sh}(ih:Lays enc P W s):Lays enc P W (.slice s):=by
 intro t hs cs hr I h k hb
 have qC:∀e,P.underlying t=some (.slice e)->P.cellsOf e=s.size->0<s.size->FP P s e->∃h' I' cs',Came I h W I' h'/\Here I' h' (.slice s) cs cs':=by
  intro e ht hc h0 he
  obtain⟨fuel,y,hy⟩:=hr
  rcases DataW.trod_slice ht hy with⟨rfl,_⟩|⟨a,len,cap,elems,rest,m,_,rfl,_,hba,hl,hm,hlen,hel,hsp,_⟩
  ·exact⟨h,I,[.slice none 0 0],Came.refl k,⟨none,⟨0,0,none⟩,0,0,rfl,by omega,.inl (by omega),fun h=>by omega,fun h=>by omega,.inl ⟨rfl,rfl⟩,fun i hi=>by omega⟩,by simp[BH,In],by simp[Ah,AE.ren]⟩
  obtain⟨hrl,hrest⟩:=hsp rfl
  have hcell:∀i,i<len->∃ci,W.cells? 0 (a.add (i*s.size)) s.size=some ci/\Rd enc P W e ci:=fun i hi=>by
   have:=hel i hi
   rw[hc]at this
   have hi2:i<elems.length:=by omega
   rw[List.getElem?_eq_getElem hi2]at this
   obtain⟨ci,h1,h2⟩:=Option.bind_eq_some_iff.1 this
   exact⟨ci,h1,m,_,h2⟩
  have hok:(0<len\/0<cap)->a.block<W.heap.size/\a.spot=none:=by
   intro hpos
   have hone:∃c0,W.cells? 0 (a.add 0) s.size=some c0:=by
    rcases Nat.eq_zero_or_pos len with hl0|hl0
    ·have hcp:0<cap:=by omega
     have:=hrest 0 (by omega)
     rw[hc,hl0,Nat.zero_add,Nat.zero_mul]at this
     have hi2:0<rest.length:=by omega
     rw[List.getElem?_eq_getElem hi2]at this
     obtain⟨ci,h1,h2⟩:=Option.bind_eq_some_iff.1 this
     exact⟨ci,h1⟩
    ·obtain⟨ci,h1,_⟩:=hcell 0 hl0
     rw[Nat.zero_mul]at h1
     exact⟨ci,h1⟩
   obtain⟨c0,h1⟩:=hone
   obtain⟨-,hl1,hget⟩:=World.cells?_some h1
   have hg0:=hget 0 h0
   rw[add_zero',add_zero',List.getElem?_eq_getElem (by omega)]at hg0
   exact dc hg0
  have hch:∃c:Nat->List Value,∀i,i<len->W.cells? 0 (a.add (i*s.size)) s.size=some (c i)/\Rd enc P W e (c i):=
   ⟨fun i=>if hi:i<len then(hcell i hi).choose else[],fun i hi=>by simp only[dif_pos hi];exact(hcell i hi).choose_spec⟩
  obtain⟨c,hcc⟩:=hch
  obtain⟨h1,I1,F,a1,k1⟩:=Sn ih he c len (fun i hi=>(hcc i hi).2) I h k hb
  have hF:∀i,i<len->(F i).length=s.size:=fun i hi=>(k1 i hi).fits.length
  by_cases dX:a.block<W.heap.size/\a.spot=none
  ·obtain⟨hlt,hspot⟩:=dX
   obtain⟨hle,hrel⟩:=cx (b:=a.block) (d:=a.off) (c:=H6 F len) a1.rel (a1.base.trans hb) hlt (SL fun i hi=>(k1 i hi).inn) (fun j v hv=>by
    obtain⟨i,r,hi,hrz,rfl,hfr⟩:=Xr hF hv
    obtain⟨-,hl1,hget⟩:=World.cells?_some (hcc i hi).1
    have hg:=hget r hrz
    rw[add_add' a _ _ hspot]at hg
    rw[hg,<-(k1 i hi).ren,BO,hfr]
    rfl)
   have a2:Came I1 h1 W (I1.lay h1.next a.block a.off) ((h1.bump 1).put h1.next (.ro (H6 F len))):=
    ⟨hle,rfl,hrel,((Same.refl _ _).bump).put (Nat.le_refl _),by simp[Dv,C0]⟩
   have KL:cap<far:=by unfold maxLen at hm;unfold far;omega
   refine⟨_,_,[.slice (some ⟨h1.next,0,none⟩) len cap],a1.trans a2,⟨some ⟨h1.next,0,none⟩,⟨h1.next,0,none⟩,len,cap,rfl,hl,.inl hm,fun _=>rfl,fun _=>⟨by simp[Dv,C0],rfl⟩,.inr (.inr ⟨_,rfl,by simp[Dv,C0],?_,rfl,hm⟩),fun i hi=>?_⟩,?_,?_⟩
   ·simp[H.Az,H.put,Br,cut]
   ·refine⟨F i,?_,((k1 i hi).came a2).fits⟩
    have hlf:=FM hF
    have h3:i*s.size+s.size<=len*s.size:=by
     have:(i+1) *s.size<=len*s.size:=Nat.mul_le_mul_right _ (by omega)
     rw[Nat.add_mul]at this;omega
    refine YZ (off:=0+i*s.size) (c:=H6 F len) (Qn rfl) ?_
    unfold cut
    rw[if_pos (by omega),Nat.zero_add,LC hF i hi]
   ·simp only[BH,and_true]
    rw[B8 KL]
    exact⟨⟨_,Al.Uf ..⟩,hl⟩
   ·simp only[Ah]
    rw[BD KL]
    simp only[Cx,Al.Uf,Bq,Nat.add_zero]
    obtain⟨ab,ao,as_⟩:=a
    simp only at hspot
    subst hspot
    rfl
  ·have hcap0:cap=0:=by
    rcases Nat.eq_zero_or_pos cap with h0|h0
    ·exact h0
    ·exact absurd (hok (.inr h0)) dX
   have KJ:len=0:=by omega
   subst hcap0 KJ
   refine⟨h1,I1,[.slice (some a) 0 far],a1,⟨some a,a,0,far,rfl,by omega,.inr ⟨Nat.le_refl _,rfl⟩,fun h=>by omega,fun h=>by omega,.inr (.inl ⟨_,rfl,rfl⟩),fun i hi=>by omega⟩,?_,?_⟩
   ·simp only[BH,and_true]
    rw[I8 (Nat.le_refl _)]
    exact⟨rfl,.inl rfl⟩
   ·simp only[Ah]
    rw[CR (Nat.le_refl _),Hj,Hh]
 generalize hsh:Sh.slice s=s' at hs
 cases hs with
 |slice ht hc h0 he=>cases hsh;exact qC _ ht hc h0 he
 |struct ht hc hf=>subst hsh;cases hf
 | @arr s0 t0 e0 n0 ht hc hct he=>cases n0<;>simp[Sh.rep]at hsh
 |_=>cases hsh

theorem lays (s:Sh):Lays enc P W s/\Tk enc P W s:=by
 have nK:∀s:Sh,(∀fs off,¬Fields P s fs off)->Tk enc P W s:=fun s hn fs off hf=>absurd hf (hn fs off)
 -- a struct, an array, of what is known
 have wide:∀s:Sh,Tk enc P W s->(∀n s0,s=s0.rep n->0<n->Lays enc P W s0)->∀t,FP P s t->(∀fs,P.underlying t=some (.struct fs)->P.cellsOf t=s.size->Fields P s fs.toList 0->∀cs,Rd enc P W t cs->∀I h,Rel I h W->I.base=W.heap.size->∃h' I' cs',Came I h W I' h'/\Here I' h' s cs cs')/\
  (∀n e s0,s=s0.rep n->P.underlying t=some (.array n e)->P.cellsOf e=s0.size->P.cellsOf t=n*s0.size->FP P s0 e->∀cs,Rd enc P W t cs->∀I h,Rel I h W->I.base=W.heap.size->∃h' I' cs',Came I h W I' h'/\Here I' h' s cs cs'):=by
  intro s hF hA t _
  refine⟨fun fs ht hc hf cs hr I h k hb=>?_,fun n e s0 e1 ht hc hct he cs hr I h k hb=>?_⟩
  ·obtain⟨fuel,y,hy⟩:=hr
   obtain⟨xs,m, -, -,hl,hxl,hx⟩:=DataW.trod_struct ht hy
   have:=hF fs.toList 0 hf cs (by omega) (fun f hfm=>by
    obtain⟨i,hi,hfi⟩:=List.mem_iff_getElem.1 hfm
    have hi':i<fs.size:=by simpa using hi
    have h1:=hx i f (by rw[<-hfi];simp[hi'])
    rw[List.getElem?_eq_getElem (by omega)]at h1
    exact⟨m,_,h1⟩) I h k hb
   simpa using this
  ·subst e1
   obtain⟨fuel,y,hy⟩:=hr
   obtain⟨xs,m, -, -,hl,hxl,hx⟩:=DataW.trod_array ht hy
   rcases Nat.eq_zero_or_pos n with h0|h0
   ·subst h0
    exact⟨h,I,[],Came.refl k,rfl,by simp[BH],by rw[show cs=[]from List.eq_nil_of_length_eq_zero (by omega)];simp[Ah]⟩
   ·refine Sm (hA n s0 rfl h0) he n cs (by omega) (fun i hi=>?_) I h k hb
    have h1:=hx i hi
    rw[hc,List.getElem?_eq_getElem (by omega)]at h1
    exact⟨m,_,h1⟩
 induction s with
 | int q=>
   refine⟨?_,nK _ fun fs off hf=>by cases hf⟩
   intro t hs cs hr I h k hb
   obtain⟨fuel,y,hy⟩:=hr
   generalize hsh:Sh.int q=s' at hs
   cases hs with
   | int ht=>
     cases hsh
     obtain⟨n,rfl, -,hw⟩:=DataW.trod_int ht hy
     refine⟨h,I,[.int q n],Came.refl k,⟨n,rfl,?_⟩,by simp[BH,In],by simp[Ah,AE.ren]⟩
     simpa[Lit.wf]using hw
   |struct ht hc hf=>subst hsh;cases hf
   | @arr s0 t0 e0 n0 ht hc hct he=>cases n0<;>simp[Sh.rep]at hsh
   |_=>cases hsh
 | bool=>
   refine⟨?_,nK _ fun fs off hf=>by cases hf⟩
   intro t hs cs hr I h k hb
   obtain⟨fuel,y,hy⟩:=hr
   generalize hsh:Sh.bool=s' at hs
   cases hs with
   | bool ht=>
     obtain⟨n,rfl, -⟩:=DataW.trod_bool ht hy
     exact⟨h,I,[.bool n],Came.refl k,⟨n,rfl⟩,by simp[BH,In],by simp[Ah,AE.ren]⟩
   |struct ht hc hf=>subst hsh;cases hf
   | @arr s0 t0 e0 n0 ht hc hct he=>cases n0<;>simp[Sh.rep]at hsh
   |_=>cases hsh
 | str=>
   refine⟨?_,nK _ fun fs off hf=>by cases hf⟩
   intro t hs cs hr I h k hb
   obtain⟨fuel,y,hy⟩:=hr
   generalize hsh:Sh.str=s' at hs
   cases hs with
   | str ht=>
     obtain⟨n,rfl, -,hw⟩:=DataW.trod_string ht hy
     exact⟨h,I,[.string n],Came.refl k,⟨n,rfl,hw⟩,by simp[BH,In],by simp[Ah,AE.ren]⟩
   |struct ht hc hf=>subst hsh;cases hf
   | @arr s0 t0 e0 n0 ht hc hct he=>cases n0<;>simp[Sh.rep]at hsh
   |_=>cases hsh
 | nil=>
   have hF:Tk enc P W .nil:=by
    intro fs off hf cs hl hr I h k hb
    exact⟨h,I,[],Came.refl k,rfl,by simp[BH],by rw[List.drop_of_length_le (by simp only[Sh.size]at hl;omega)];simp[Ah]⟩
   refine⟨?_,hF⟩
   intro t hs cs hr I h k hb
   have hw:=wide .nil hF (fun n s0 e h0=>by cases n<;>simp[Sh.rep]at e h0) t hs
   generalize hsh:Sh.nil=s' at hs
   cases hs with
   |struct ht hc hf=>subst hsh;exact hw.1 _ ht hc hf cs hr I h k hb
   |arr ht hc hct he=>exact(by
    have:=hw.2 _ _ _ hsh ht hc hct he cs hr I h k hb
    rw[<-hsh];exact this)
   |_=>cases hsh
 | cons a b iha ihb=>
   have hF:Tk enc P W (.cons a b):=by
    intro fs off hf cs hl hr I h k hb
    cases hf with
    | @cons _ _ f fs' _ ho hc ha hrest=>
      simp only[Sh.size]at hl
      have hra:=hr f (by simp)
      rw[ho,hc]at hra
      obtain⟨h1,I1,c1,a1,k1⟩:=iha.1 _ ha _ hra I h k hb
      obtain⟨h2,I2,c2,a2,k2⟩:=ihb.2 fs' _ hrest cs (by omega) (fun g hg=>hr g (by simp[hg])) I1 h1 a1.rel (a1.base.trans hb)
      have k1':=k1.came a2
      refine⟨h2,I2,c1++c2,a1.trans a2,⟨c1,c2,rfl,k1'.fits,k2.fits⟩,B4.2 ⟨k1'.inn,k2.inn⟩,?_⟩
      rw[BM,k1'.ren,k2.ren,<-List.drop_drop,List.take_append_drop]
   refine⟨?_,hF⟩
   intro t hs cs hr I h k hb
   have hA:∀n s0,Sh.cons a b=s0.rep n->0<n->Lays enc P W s0:=fun n s0 e h0=>by
    cases n with
    |zero=>omega
    |succ n=>simp only[Sh.rep,Sh.cons.injEq]at e;rw[<-e.1];exact iha.1
   have hw:=wide (.cons a b) hF hA t hs
   generalize hsh:Sh.cons a b=s' at hs
   cases hs with
   |struct ht hc hf=>subst hsh;exact hw.1 _ ht hc hf cs hr I h k hb
   |arr ht hc hct he=>exact(by
    have:=hw.2 _ _ _ hsh ht hc hct he cs hr I h k hb
    rw[<-hsh];exact this)
   |_=>cases hsh
 |slice e uH=>exact⟨Ue uH.1,nK _ fun fs off hf=>by cases hf⟩
end
end AE

/- All arguments of a call that come in; what the statements' form asks of a call. -/
namespace AE
open Go Go.RowKit Go.ChangeShapes Go.WideShapes Go.ChangeAt

def Mn (h:H) (m:Nat):List (Bool × Sh)->List Value->Prop
 |[],vs=>vs=[]
 |(true,s)::r,vs=>∃cs rest,vs= .agg ⟨cs⟩::rest/\Fits h m s cs/\Mn h m r rest
 |(false,s)::r,vs=>∃v rest,vs=v::rest/\Fits h m s [v]/\Mn h m r rest
def nU (P:Program):List (Bool × Sh)->List TypeId->Prop
 |[],ts=>ts=[]
 |(f,s)::r,ts=>∃t rest,ts=t::rest/\FP P s t/\BU P t=some f/\nU P r rest
theorem Mn.same {h h':H}{m m':Nat}(s:Same m h h') (hm:m<=m'):∀{bw:List (Bool × Sh)} {vs:List Value},Mn h m bw vs->Mn h' m' bw vs
 |[],_,k=>k
 |(true,_)::_,_,⟨cs,rest,e,k1,k2⟩=>⟨cs,rest,e,k1.same s hm,k2.same s hm⟩
 |(false,_)::_,_,⟨v,rest,e,k1,k2⟩=>⟨v,rest,e,k1.same s hm,k2.same s hm⟩

section
variable {P:Program}{T:Type}{enc:TypeId × Value->T}{W:World}{base:Nat}

theorem one_cell {s:Sh}{t:TypeId}{v:Value}(hs:FP P s t) (hg:BU P t=some false) (hok:Value.okWide P W .any base t v):v.cells.toList=[v]:=by
 have hc:Cell.okWide P W .any base t v:=by
  unfold Value.okWide at hok
  unfold BU at hg
  split at hok
  ·rename_i h;rw[h]at hg;simp at hg
  ·rename_i h;rw[h]at hg;simp at hg
  ·exact hok
 unfold Cell.okWide at hc
 cases hs with
 |int ht=>rw[ht]at hc;cases v<;>first|rfl|simp[Cell.ok,ht]at hc
 |bool ht=>rw[ht]at hc;cases v<;>first|rfl|simp[Cell.ok,ht]at hc
 |str ht=>rw[ht]at hc;cases v<;>first|rfl|simp[Cell.ok,ht]at hc
 |slice ht _ _ _=>rw[ht]at hc;cases v<;>first|rfl|simp[Cell.ok,ht]at hc
 |struct ht _ _=>unfold BU at hg;rw[ht]at hg;simp at hg
 |arr ht _ _ _=>unfold BU at hg;rw[ht]at hg;simp at hg
theorem XK {t:TypeId}{v:Value}(hg:BU P t=some true) (hok:Value.okWide P W .any base t v):∃cs,v= .agg cs:=by
 unfold Value.okWide at hok
 unfold BU at hg
 split at hok
 ·obtain⟨cs,e,_⟩:=hok;exact⟨cs,e⟩
 ·obtain⟨cs,e,_⟩:=hok;exact⟨cs,e⟩
 ·rename_i h1 h2
  split at hg
  ·rename_i h;exact absurd h (h1 _)
  ·rename_i h;exact absurd h (h2 _ _)
  ·simp at hg
  ·simp at hg

theorem PO:∀(bw:List (Bool × Sh)) (ts:List TypeId) (vs:List Value) (ds:List (DataW T)) (p:List MemPlace),nU P bw ts->DataW.TrodAll enc P W 0 (fun _=>true) true ts vs ds p->(∀(j:Nat) t v,ts[j]? =some t->vs[j]? =some v->Value.okWide P W .any base t v)->
 ∀I h,Rel I h W->I.base=W.heap.size->∃h' I' vs',Came I h W I' h'/\Mn h' h'.next bw vs'/\BH I' vs'/\Ah I' vs'=vs
 | [],ts,vs,ds,p,hs,hA,hok,I,h,k,hb=>by
   have hs:ts=[]:=hs
   subst hs
   obtain⟨rfl, -, -⟩:=trodAll_nil hA
   exact⟨h,I,[],Came.refl k,rfl,by simp[BH],by simp[Ah]⟩
 | (f, s)::r,ts,vs,ds,p,hs,hA,hok,I,h,k,hb=>by
   obtain⟨t,rest,rfl,h1,h2,h3⟩:=hs
   obtain⟨v,vs',d,ds',p1,q1,rfl,rfl,rfl,ht,hr⟩:=trodAll_cons hA
   have hv:=hok 0 t v rfl rfl
   obtain⟨fuel,hfuel⟩:=ht
   obtain⟨ha,Ia,cs',a1,k1⟩:=(lays (enc:=enc) (P:=P) (W:=W) s).1 t h1 v.cells.toList ⟨fuel,_,hfuel⟩ I h k hb
   obtain⟨hc,Ic,rs',a2,k2,i2,e2⟩:=PO r rest vs' ds' q1 h3 hr (fun j t' v' e1 e2=>hok (j+1) t' v' (by simpa using e1) (by simpa using e2)) Ia ha a1.rel (a1.base.trans hb)
   have k1':=k1.came a2
   cases f with
   | true=>
     obtain⟨cs,rfl⟩:=XK h2 hv
     refine⟨hc,Ic,.agg ⟨cs'⟩::rs',a1.trans a2,⟨cs',rs',rfl,k1'.fits,k2⟩,?_,?_⟩
     ·simp only[BH,In];exact⟨k1'.inn,i2⟩
     ·simp only[Ah,ren]
      rw[k1'.ren,e2]
      rfl
   | false=>
     have hone:=one_cell h1 h2 hv
     have NT:=k1'.ren
     rw[hone]at NT
     match cs',NT,k1'.fits,k1'.inn with
     | [v'],NT,hfit,lq=>
       simp only[Ah,List.cons.injEq,and_true]at NT
       simp only[BH,and_true]at lq
       exact⟨hc,Ic,v'::rs',a1.trans a2,⟨v',rs',rfl,hfit,k2⟩,⟨lq,i2⟩,by simp only[Ah];rw[NT,e2]⟩
     |[],NT,_,_=>simp[Ah]at NT
     |_::_::_,NT,_,_=>simp[Ah]at NT

theorem Xc (htab:I7 W.heap.size W) {f:FuncId}{bw:List (Bool × Sh)}{ts:List TypeId}{args:Array Value}{ds:List (DataW T)}{p:List MemPlace}(hs:nU P bw ts) (hA:DataW.TrodAll enc P W 0 (fun _=>true) true ts args.toList ds p)
 (hok:∀(j:Nat) t v,ts[j]? =some t->args[j]? =some v->Value.okWide P W .any base t v) (hw:∀{h:H} {vs:List Value},Mn h h.next bw vs->AW P f h.next h vs (fun v _=>v= .bool true)):
 Calls P f args W fun e w'=>e= .returned (.bool true)/\Below W.heap.size W w':=by
 obtain⟨h',I',vs',a,k,i,e⟩:=PO bw ts args.toList ds p hs hA (fun j t v e1 e2=>hok j t v e1 (by rw[<-Array.getElem?_toList];exact e2)) (Zr W) H.empty (oM W htab) rfl
 have hargs:(⟨Ah I' vs'⟩:Array Value)=args:=by rw[e]
 rw[<-hargs]
 exact(hw k).law a.rel a.base i
theorem Jz (hl:laidOutB P=true) {W':World}(hb:Below W.heap.size W W'):∀(ts:List TypeId) (vs:List Value) (ds:List (DataW T)) (p:List MemPlace),(ts.all fun t=>P.readableRec t&&decide (t<P.types.size))=true->DataW.TrodAll enc P W 0 (fun _=>true) true ts vs ds p->
 DataW.TrodAll enc P W' 0 (fun b=>decide (b<W.heap.size)) true ts vs ds p
 | [],vs,ds,p,_,hA=>by
   obtain⟨rfl,rfl,rfl⟩:=trodAll_nil hA
   exact rfl
 | t::ts,vs,ds,p,hr,hA=>by
   obtain⟨v,vs',d,ds',p1,q1,rfl,rfl,rfl,ht,hr'⟩:=trodAll_cons hA
   simp only[List.all_cons,Bool.and_eq_true,decide_eq_true_eq]at hr
   have lt:∀x∈p1,x.block<W.heap.size:=by obtain⟨m,hm⟩:=ht;exact DataW.trod_lt m _ _ _ hm
   exact⟨p1,q1,Below.trod hl hr.1.1 hr.1.2 ht hb lt,Jz hl hb ts vs' ds' q1 (by simpa using hr.2) hr',rfl⟩
end


def Sh.ints (k:IntKind):Sh->Bool
 |.int k'=>k'==k
 |.nil=>true
 |.cons a b=>a.ints k&&b.ints k
 |_=>false
theorem Jo {k:IntKind}{h:H}{m:Nat}:∀{s:Sh} {cs:List Value},s.ints k=true->Fits h m s cs->∃zs:List Int,cs=zs.map (.int k)/\zs.length=s.size/\∀z∈zs,k.min<=z/\z<=k.max
 | .int k',cs,hi,⟨n,e,h1,h2⟩=>by
   simp only[Sh.ints,beq_iff_eq]at hi
   subst hi
   exact⟨[n],by rw[e];rfl,rfl,fun z hz=>by simp only[List.mem_singleton]at hz;subst hz;exact⟨h1,h2⟩⟩
 |.nil,cs,_,e=>⟨[],by rw[show cs=[]from e];rfl,rfl,fun z hz=>by simp at hz⟩
 | .cons a b,cs,hi,⟨c1,c2,e,k1,k2⟩=>by
   simp only[Sh.ints,Bool.and_eq_true]at hi
   obtain⟨z1,e1,l1,b1⟩:=Jo hi.1 k1
   obtain⟨z2,e2,l2,b2⟩:=Jo hi.2 k2
   refine⟨z1++z2,by rw[e,e1,e2,List.map_append],by rw[List.length_append,l1,l2];rfl,fun z hz=>?_⟩
   rcases List.mem_append.1 hz with hz|hz
   ·exact b1 z hz
   ·exact b2 z hz
 |.bool,_,hi,_=>by simp[Sh.ints]at hi
 |.str,_,hi,_=>by simp[Sh.ints]at hi
 |.slice _,_,hi,_=>by simp[Sh.ints]at hi

theorem YK {α:Type}(d:α) {n:Nat}{p:Nat->α->Prop}(h:∀i,i<n->∃x,p i x):∃f:Nat->α,∀i,i<n->p i (f i):=by
 classical
 exact⟨fun i=>if hi:i<n then(h i hi).choose else d,fun i hi=>by simp only[dif_pos hi];exact(h i hi).choose_spec⟩
end AE
