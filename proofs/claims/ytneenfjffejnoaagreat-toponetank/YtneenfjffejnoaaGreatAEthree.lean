/- The evaluator and its laws: AEDemon2, AEDemon3, AESym, AEWp, AEBy, AELaw, AEOps, AEEq, AEMax3, AEEq2, AECells, AEGrow, AEGat, AEGx, AESlc, AEMapInt, AEMapE, AEExt, AEDXa, AEArg, AEArg2. No program in sight. -/
import Derived.Test.YtneenfjffejnoaaGreatAEtwo
import Derived.ProofKit
import Derived.Below
import GoSem.Extern.Table
import Derived.OpenShut
import Derived.ShutString
import Derived.ChangeOld
import Derived.Carry
set_option linter.unusedVariables false
set_option linter.unusedSimpArgs false
set_option linter.unusedSectionVars false

/- A call whose walk may come to many ends, which are alike in what is kept. -/
namespace AE
open Go Go.RowKit

def Kept (N:Nat) (h:H) (r:Nat) (row:BQ):Prop:=
 row= .gone\/(r<h.next/\h.get r=some row)\/∀(J:AZ) (w:World),Ci J r w row->Ci (J.below N) r w row
theorem Dk.Acd {I J:AZ}{lo N:Nat}{h h' h1:H}{w w':World}(k:Rel I h w) (a:Dk I J lo h.next h' w w') (hN:h.next<=N) (hN1:N<=h1.next) (hc:∀r,h1.next<=r->h1.get r=none)
 (hk:∀r row,r<N->h1.get r=some row->Kept N h r row) (hs:∀r row,r<N->h1.get r=some row->row= .gone\/h'.get r=some row):Dk I (J.below N) lo h.next h1 w w':=by
 have hI:Le I (J.below N):=a.grows.le.below fun r d=>Nat.lt_of_lt_of_le (k.lt r d) hN
 refine⟨⟨hI,fun r s b d e=>a.grows.new r s b d (AZ.BL e).2⟩,fun r ⟨s,p,e⟩=>a.dom r ⟨s,p,(AZ.BL e).2⟩,fun r s p hr e=>a.old r s p hr (AZ.BL e).2,?_,a.ext⟩
 refine⟨fun r row hr ⟨s,p,e⟩=>?_,fun r ⟨s,p,e⟩=>Nat.lt_of_lt_of_le (AZ.BL e).1 hN1,fun r s b d e=>a.rel.size r s b d (AZ.BL e).2,a.rel.base,a.rel.tabs,fun r r' s s' b d d' e e' hb=>a.rel.inj r r' s s' b d d' (AZ.BL e).2 (AZ.BL e').2 hb,hc⟩
 obtain⟨hlt,e⟩:=AZ.BL e
 rcases hs r row hlt hr with rfl|h'r
 ·trivial
 have kJ:=a.rel.rows r row h'r ⟨s,p,e⟩
 rcases hk r row hlt hr with rfl|⟨hlt',h0⟩|hrow
 ·trivial
 ·have hd:I.dom r:=(a.dom r ⟨s,p,e⟩).resolve_right (by omega)
  exact(k.rows r row h0 hd).below hI hlt kJ
 ·exact hrow J w' kJ

end AE

/- A call whose walk may come to many ends, which hand back one new row, wherever it lies. -/
namespace AE
open Go Go.RowKit
def AZ.mv (J:AZ) (n rs:Nat):AZ:=⟨fun r s=>if r<n then J.at_ r s else if r=n then J.at_ rs s else none,fun r g=>if r=n then J.cap rs g else J.cap r g,J.base⟩
theorem AZ.LM {J:AZ}{n rs r:Nat}{s:Option Nat}(h:r<n):(J.mv n rs).at_ r s=J.at_ r s:=if_pos h
theorem AZ.Ox {J:AZ}{n rs:Nat}{s:Option Nat}:(J.mv n rs).at_ n s=J.at_ rs s:=by
 show(if n<n then _ else if n=n then _ else _)=_
 rw[if_neg (Nat.lt_irrefl n),if_pos rfl]
theorem AZ.JE {J:AZ}{n rs r:Nat}{s:Option Nat}{p:Nat × Nat}(h:(J.mv n rs).at_ r s=some p):(r<n/\J.at_ r s=some p)\/(r=n/\J.at_ rs s=some p):=by
 replace h:(if r<n then J.at_ r s else if r=n then J.at_ rs s else none)=some p:=h
 by_cases h1:r<n
 ·rw[if_pos h1]at h;exact .inl ⟨h1,h⟩
 ·rw[if_neg h1]at h
  by_cases h2:r=n
  ·rw[if_pos h2]at h;exact .inr ⟨h2,h⟩
  ·rw[if_neg h2]at h;exact absurd h (by simp)
theorem Le.mv {I J:AZ}{n rs:Nat}(h:Le I J) (hn:∀r,I.dom r->r<n):Le I (J.mv n rs):=
 ⟨fun r s p e=>by rw[AZ.LM (hn r ⟨s,p,e⟩)];exact h.at_ r s p e,fun r g p e=>by
  have hr:=hn r ⟨_,p,e⟩
  show(if r=n then _ else _)=_
  rw[if_neg (by omega)];exact h.cap r g p e,h.base⟩
theorem Ci.mv {I J:AZ}{n rs r:Nat}{w w':World}{row:BQ}(hI:Le I (J.mv n rs)) (hIJ:Le I J) (hr:r<n) (k:Ci I r w row) (k':Ci J r w' row):Ci (J.mv n rs) r w' row:=by
 have ih:∀v,In I v->ren (J.mv n rs) v=ren J v:=fun v i=>by rw[(hI.ren v i).1,(hIJ.ren v i).1]
 have ihL:∀vs,C5 I vs->AX (J.mv n rs) vs=AX J vs:=fun v i=>by rw[(hI.AX v i).1,(hIJ.AX v i).1]
 cases row with
 | cells c e=>
   obtain⟨b,e1,e2,e3⟩:=k'.2
   exact⟨(hI.AX c k.1).2,b,(AZ.LM hr).trans e1,e2,by rw[e3,ihL c k.1]⟩
 | ro c=>
   obtain⟨b,d,e1,e2⟩:=k'.2
   exact⟨(hI.AX c k.1).2,b,d,(AZ.LM hr).trans e1,fun j v hj=>by rw[e2 j v hj,ih v (Gm k.1 hj)]⟩
 | grow c e sz lens valid=>
   obtain⟨-,h1,h2,hgen,hof,h3⟩:=k'
   refine⟨(hI.AX c k.1).2,h1,h2,fun g p e=>?_,fun g g' b d d' v v' e e'=>?_,fun g hg hl=>?_⟩
   ·rw[AZ.LM hr]at e;exact hgen g p e
   ·rw[AZ.LM hr]at e e';exact hof g g' b d d' v v' e e'
   ·obtain⟨b,d,C,e1,e2,e3,e4,e5,e6⟩:=h3 g hg hl
    refine⟨b,d,C,(AZ.LM hr).trans e1,e2,e3,e4,?_,by rw[ihL c k.1];exact e6⟩
    show C.size=d+(if r=n then _ else _) *sz
    rw[if_neg (by omega)];exact e5
 | map es clock=>
   obtain⟨b,e1,e2,e3⟩:=k'.2
   refine⟨fun e he=>⟨(hI.ren _ (k.1 e he).1).2,(hI.ren _ (k.1 e he).2).2⟩,b,(AZ.LM hr).trans e1,e2,?_⟩
   rw[e3]
   congr 3
   exact List.map_congr_left fun e he=>by unfold Dl;rw[ih _ (k.1 e he).1,ih _ (k.1 e he).2]
 | iter m since seen c0=>
   obtain⟨b,bm,e1,e2,e3,e4⟩:=k'
   obtain⟨b0,bm0,f1,f2,f3,f4⟩:=k
   have h3:=hIJ.at_ _ _ _ f3
   rw[e3]at h3;simp at h3;subst h3
   exact⟨b,bm,(AZ.LM hr).trans e1,e2,hI.at_ _ _ _ f3,e4⟩
 | Oc s p=>
   obtain⟨b,e1,e2,e3⟩:=k'
   exact⟨b,(AZ.LM hr).trans e1,e2,e3⟩
 | loop l=>
   obtain⟨-,tm, -, -, -, -,t0, -⟩:=k
   obtain⟨b,tmps,db,fn,e1,e2,e3,e5⟩:=k'
   refine⟨b,tmps,db,fn,(AZ.LM hr).trans e1,e2,⟨e3.1,fun i=>?_⟩,e5⟩
   exact⟨by rw[(e3.2 i).1,ih _ (t0.2 i).2],(hI.ren _ (t0.2 i).2).2⟩
 | defers=>
   obtain⟨b,e1,e2,e3⟩:=k'
   exact⟨b,(AZ.LM hr).trans e1,e2,e3⟩
 |gone=>trivial
theorem fB {J:AZ}{n rs sz valid:Nat}{w:World}{c:List Value}{e:TypeId}{lens:List Nat}(hc:∀v∈c,∀I:AZ,In I v/\ren I v=v) (k:Ci J rs w (.grow c e sz lens valid)):Ci (J.mv n rs) n w (.grow c e sz lens valid):=by
 obtain⟨-,h1,h2,hgen,hof,h3⟩:=k
 have rl:∀I:AZ,∀l:List Value,(∀v∈l,∀I:AZ,In I v/\ren I v=v)->C5 I l/\AX I l=l:=fun I l=>by
  induction l with
  |nil=>intro _;simp[C5,AX]
  | cons x l ih=>
    intro h
    have a:=h x (by simp) I
    have b:=ih fun v hv=>h v (by simp[hv])
    simp only[C5,AX]
    exact⟨⟨a.1,b.1⟩,by rw[a.2,b.2]⟩
 refine⟨(rl _ c hc).1,h1,h2,fun g p e=>?_,fun g g' b d d' v v' e e'=>?_,fun g hg hl=>?_⟩
 ·rw[AZ.Ox]at e;exact hgen g p e
 ·rw[AZ.Ox]at e e';exact hof g g' b d d' v v' e e'
 ·obtain⟨b,d,C,e1,e2,e3,e4,e5,e6⟩:=h3 g hg hl
  refine⟨b,d,C,AZ.Ox.trans e1,e2,e3,e4,?_,by rw[(rl _ c hc).2];rw[(rl J c hc).2]at e6;exact e6⟩
  show C.size=d+(if n=n then _ else _) *sz
  rw[if_pos rfl];exact e5
theorem Dk.mv {I J:AZ}{lo rs:Nat}{h h' h1:H}{w w':World}(k:Rel I h w) (a:Dk I J lo h.next h' w w') (hlo:lo<=h.next) (hrs:h.next<=rs) (hN1:h.next<h1.next) (hc:∀r,h1.next<=r->h1.get r=none)
 (hold:∀r row,r<h.next->h1.get r=some row->row= .gone\/(h.get r=some row/\h'.get r=some row)) (hnew:∀row,h1.get h.next=some row->(J.mv h.next rs).dom h.next->Ci (J.mv h.next rs) h.next w' row):Dk I (J.mv h.next rs) lo h.next h1 w w':=by
 have hI:Le I (J.mv h.next rs):=a.grows.le.mv k.lt
 have hno:∀s p,I.at_ rs s≠some p:=fun s p e=>by have:=k.lt rs ⟨s,p,e⟩;omega
 refine⟨⟨hI,fun r s b d e=>?_⟩,fun r ⟨s,p,e⟩=>?_,fun r s p hr e=>?_,?_,a.ext⟩
 ·rcases AZ.JE e with⟨h1,e⟩|⟨h1,e⟩
  ·exact a.grows.new r s b d e
  ·rcases a.grows.new rs s b d e with e|e|⟨s',d',e⟩
   ·exact absurd e (hno _ _)
   ·exact .inr (.inl e)
   ·exact absurd e (hno _ _)
 ·rcases AZ.JE e with⟨h1,e⟩|⟨h1,e⟩
  ·exact a.dom r ⟨s,p,e⟩
  ·exact .inr (by omega)
 ·rcases AZ.JE e with⟨h1,e⟩|⟨h1,e⟩
  ·exact a.old r s p hr e
  ·omega
 ·refine⟨fun r row hr hd=>?_,fun r ⟨s,p,e⟩=>?_,fun r s b d e=>?_,a.rel.base,a.rel.tabs,fun r r' s s' b d d' e e' hb=>?_,hc⟩
  ·obtain⟨s,p,e⟩:=hd
   rcases AZ.JE e with⟨h2,e⟩|⟨h2,e⟩
   ·rcases hold r row h2 hr with rfl|⟨h3,h4⟩
    ·trivial
    ·have hdI:I.dom r:=(a.dom r ⟨s,p,e⟩).resolve_right (by omega)
     exact(k.rows r row h3 hdI).mv hI a.grows.le h2 (a.rel.rows r row h4 ⟨s,p,e⟩)
   ·subst h2
    exact hnew row hr ⟨s,p,by first|assumption|(rw[AZ.Ox];assumption)⟩
  ·rcases AZ.JE e with⟨h2, -⟩|⟨h2, -⟩<;>omega
  ·rcases AZ.JE e with⟨-,e⟩|⟨-,e⟩<;>exact a.rel.size _ s b d e
  ·rcases AZ.JE e with⟨h2,e⟩|⟨h2,e⟩<;>rcases AZ.JE e' with⟨h3,e'⟩|⟨h3,e'⟩
   ·exact a.rel.inj r r' s s' b d d' e e' hb
   ·have:=a.rel.inj r rs s s' b d d' e e' hb;omega
   ·have:=a.rel.inj rs r' s s' b d d' e e' hb;omega
   ·omega

theorem Zn {P:Program}{f:FuncId}{fn:Func}{c:Code}{n nargs lo:Nat}{rs:List ResultVar}{h h1:H}{args:List Value}{v:Value}(hf:P.funcs[f]? =some fn) (hb:fn.body=some c) (hn:fn.ntmps=n) (hna:nargs<=n) (hrs:fn.results=⟨rs⟩) (hname:(fn.name== "runtime.NumGoroutine")=false)
 (ha:args.length=nargs) (hlo:lo<=h.next) (hN1:h.next<h1.next) (hq:Quiet lo h h1)
 (hw:WD (TC true P c) n lo (fun e ts h'=>(e= .normal\/e= .ret)/\∃q v',h.next<=q/\Hg P h' ts rs=some v'/\(∀J:AZ,In J v'->In (J.mv h.next q) v/\ren (J.mv h.next q) v=ren J v')/\
  (∀r row,r<h.next->h1.get r=some row->row= .gone\/(h.get r=some row/\h'.get r=some row))/\(∀row,h1.get h.next=some row->∃row',h'.get q=some row'/\∀J w,Ci J q w row'->Ci (J.mv h.next q) h.next w row)) (Js args) h):AF P f lo h args v h1:=by
 refine⟨hq,fun as w=>?_,fun I w k ia=>?_⟩
 ·have hne:¬fn.name= "runtime.NumGoroutine" :=by simpa using hname
  simp[callFunc,hf,hne,hb,program,Sem.run]
 ·refine callsIn_wide.1 (callsIn_of_wp_marks (F:=Fence.wide) (n:=0) hf hb trivial ?_)
  have ht:Cu I n (Js args) ((⟨AX I args⟩:Array Value)++Array.replicate (fn.ntmps - (⟨AX I args⟩:Array Value).size) undef):=by
   refine⟨by simp;omega,fun i=>?_⟩
   rw[Array.getD_eq_getD_getElem?,Array.getElem?_append]
   by_cases hi:i<args.length
   ·simp only[List.size_toArray,Cw,hi,if_true,List.getElem?_toArray,Dm,Js,List.getElem?_eq_getElem hi,Option.map_some,Option.getD_some]
    exact⟨trivial,Gm ia (List.getElem?_eq_getElem hi)⟩
   ·simp only[List.size_toArray,Cw,hi,if_false,Js,List.getElem?_eq_none (Nat.le_of_not_lt hi),Option.getD_none]
    refine⟨?_,(Dr I).2⟩
    rw[(Dr I).1,Array.getElem?_replicate]
    split<;>rfl
  have:=hw none I w ⟨_,[]⟩ k ht (fun _=>rfl)
  refine Go.wpIn_mono this ?_
  rintro e' a' w' ⟨ts',h',J,⟨he,q,v',hqn,hv,hval,hold,hnew⟩,hq',BZ,t',ms,hd,hms⟩
  simp only[List.append_nil]at hd
  have hleave:LeavesInM Fence.wide 0 P fn a'.tmps (fun e w'=>∃J,Dk I J lo h.next h1 w w'/\In J v/\e= .returned (ren J v)) ms .returning w':=by
   refine HO (I:=I) (J:=J) (h':=h') (lo:=lo) (fun w2 k2 e2=>?_) ms w' BZ.rel BZ.ext hms
   obtain⟨iv,hrun⟩:=Jz (P:=P) hrs t' k2 hv
   have W:Dk I J lo h.next h' w w2:=⟨BZ.grows,BZ.dom,BZ.old,k2,e2⟩
   obtain⟨i1,i2⟩:=hval J iv
   refine⟨_,hrun,J.mv h.next q,W.mv k hlo hqn hN1 (hq.clean k.clean) hold (fun row hr hd=>?_),i1,by rw[i2]⟩
   obtain⟨row',h1',h2'⟩:=hnew row hr
   obtain⟨s,p,e⟩:=hd
   rw[AZ.Ox]at e
   exact h2' J w2 (k2.rows q row' h1' ⟨s,p,e⟩)
  rcases he with rfl|rfl
  ·simp only[bodyPostM,hd];exact hleave
  ·simp only[bodyPostM,hd];exact hleave

theorem ZF.Ag2 {P:Program}{n:Nat}{f:FuncId}{nargs:Nat}{A:Ay}{rs:List ResultVar}(F:ZF P f n nargs A rs) {lo:Nat}{h h1:H}{args:List Value}{v:Value}{R:Value->H->Prop}(ha:args.length=nargs) (hlo:lo<=h.next) (hN1:h.next<h1.next) (hq:Quiet lo h h1) (hR:R v h1)
 (hw:Gy P lo A (fun e ts h'=>(e= .normal\/e= .ret)/\∃q v',h.next<=q/\Hg P h' ts rs=some v'/\(∀J:AZ,In J v'->In (J.mv h.next q) v/\ren (J.mv h.next q) v=ren J v')/\
  (∀r row,r<h.next->h1.get r=some row->row= .gone\/(h.get r=some row/\h'.get r=some row))/\(∀row,h1.get h.next=some row->∃row',h'.get q=some row'/\∀J w,Ci J q w row'->Ci (J.mv h.next q) h.next w row)) (Js args) h):AW P f lo h args R:=by
 obtain⟨fn,c,hf,hb,hn,hna,hrs,hcc,hname⟩:=F.ex
 exact⟨v,h1,hR,Zn hf hb hn hna hrs hname ha hlo hN1 hq (lh F.mixed c true A _ _ _ hcc hlo hw)⟩
end AE

/- Walking compiled code step by step: lemmas, one a kind of step. -/
namespace AE
open Go


noncomputable def QN (ts:Ts) (d:Nat) (v:Value):Ts:=fun j=>Bool.rec (motive:=fun _=>Value) (ts j) v (Nat.beq j d)
theorem Ik (ts:Ts) (d:Nat) (v:Value):QN ts d v=JU ts d v:=by
 funext j
 unfold QN JU
 by_cases h:j=d
 ·subst h;simp[Nat.beq_refl]
 ·rw[if_neg h]
  have:Nat.beq j d=false:=by
   cases e:Nat.beq j d
   ·rfl
   ·exact absurd (Nat.eq_of_beq_eq_true e) h
  rw[this]
noncomputable def wG (ts:Ts) (v:Value):Option Nat->Ts
 |some d=>QN ts d v
 |none=>ts
theorem qv (ts:Ts) (v:Value) (d:Option Nat):wG ts v d=G0 ts v d:=by cases d<;>simp[wG,G0,Ik]

noncomputable def look (g:Ts):List (Nat × Value)->Ts
 |[]=>g
 |p::l=>fun j=>Bool.rec (motive:=fun _=>Value) (look g l j) p.2 (Nat.beq j p.1)
def Holds (ts:Ts):List (Nat × Value)->Prop
 |[]=>True
 |p::l=>ts p.1=p.2/\Holds ts l
theorem MA {ts:Ts}:∀{l:List (Nat × Value)},Holds ts l->look ts l=ts
 |[],_=>rfl
 | p::l,h=>by
   funext j
   simp only[look]
   rw[MA h.2]
   cases e:Nat.beq j p.1
   ·rfl
   ·have:=Nat.eq_of_beq_eq_true e
    subst this
    exact h.1.symm

theorem Lm {x:Int}(hx: -9223372036854775808<=x/\x<9223372036854775808):Xp x=x:=by
 unfold Xp IntKind.wrap
 simp[IntKind.bits,IntKind.signed]
 omega
def Is (a b:List Value):Prop:=a=b
theorem Is.eq {a b:List Value}(h:Is a b):a=b:=h
theorem Is.rfl {a:List Value}:Is a a:=Eq.refl a
theorem Is.nil:Is [] []:=Eq.refl _
theorem Is.cons {a a':Value}{as as':List Value}(h1:a=a') (h2:Is as as'):Is (a::as) (a'::as'):=by unfold Is at*;rw[h1,h2]
theorem wrap_u64 {x:Int}(hx:0<=x/\x<18446744073709551616):IntKind.u64.wrap x=x:=by
 unfold IntKind.wrap
 simp[IntKind.bits,IntKind.signed]
 omega
theorem wrap_u32 {x:Int}(hx:0<=x/\x<4294967296):IntKind.u32.wrap x=x:=by
 unfold IntKind.wrap
 simp[IntKind.bits,IntKind.signed]
 omega
theorem AK {v:Value}{k:IntKind}{a b:Int}(h:v= .int k a) (e:a=b):v= .int k b:=by rw[h,e]

inductive ZI (ts:Ts):List Value->List (Nat × Nat × BH)->List Value->Prop
 |nil {z:List Value}:ZI ts z [] z
 |cons {z z' l cs:List Value} {off size:Nat} {x:BH} {ps:List (Nat × Nat × BH)} (hc:Is (Bf (ev ts x)) cs) (hn:cs.length=size) (hl:Nat.ble (off+size) z.length=true) (hs:Is (splice z off cs) z') (h:ZI ts z' ps l):ZI ts z ((off,size,x)::ps) l
theorem ZI.eq {ts:Ts}{z:List Value}{ps:List (Nat × Nat × BH)}{l:List Value}(h:ZI ts z ps l):Hl ts z ps=some l:=by
 induction h with
 |nil=>rfl
 | cons hc hn hl hs _ ih=>
   have hl':=Nat.le_of_ble_eq_true hl
   have hc:=hc.eq
   have hs:=hs.eq
   subst hc hs
   simp only[Hl]
   rw[if_pos ⟨hn,hl'⟩]
   exact ih

section
variable {P:Program}{lo base i:Nat}{q:Bool}{K:Ts->H->Prop}{ts:Ts}{h h':H}{v:Value}{xs:List A7}{d:Option Nat}{g:Option (Nat × Bool)}

variable (hg:CN ts g=true)
include hg

end


section
variable {P:Program}{lo:Nat}{Q:Exit->Ts->H->Prop}{K:Ts->H->Prop}{ts:Ts}{h:H}

theorem Apart.nil {ts:Ts}:Apart [] ts:=by simp[Apart]
theorem Apart.cons {ts:Ts}{a b:BH}{l:List (BH × BH)}{r s:Nat}(ha:A9 (ev ts a)=[r]) (hb:A9 (ev ts b)=[s]) (hne:r≠s) (hl:Apart l ts):Apart ((a,b)::l) ts:=by
 intro p hp
 rcases List.mem_cons.1 hp with rfl|hp
 ·simp only[ha,hb,List.mem_singleton]
  rintro r rfl e
  exact hne e
 ·exact hl p hp
theorem wp_loop {c:Ay}{σ:Type}(L:σ->List (Nat × Value)) (I:σ->H->Prop) (μ:σ->Nat) (s0:σ) (ht:Holds ts (L s0)) (hi:I s0 h)
 (step:∀s g h,I s h->∀K:Ts->H->Prop,(∀s' ts' h',Holds ts' (L s')->I s' h'->μ s'<μ s->K ts' h')->Gy P lo c (EW K Q) (look g (L s)) h):Gy P lo (.loop c) Q ts h:=by
 have key:∀n s ts h,μ s<=n->Holds ts (L s)->I s h->iter (fun K=>Gy P lo c (EW K Q)) (n+1) ts h:=by
  intro n
  induction n with
  | zero=>
    intro s ts h hn ht hi
    have:=step s ts h hi (iter (fun K=>Gy P lo c (EW K Q)) 0) (fun s' _ _ _ _ hlt=>by omega)
    rwa [MA ht]at this
  | succ n ih=>
    intro s ts h hn ht hi
    have:=step s ts h hi (iter (fun K=>Gy P lo c (EW K Q)) (n+1)) (fun s' ts' h' ht' hi' hlt=>ih s' ts' h' (by omega) ht' hi')
    rwa [MA ht]at this
 exact⟨_,key _ s0 ts h (Nat.le_refl _) ht hi⟩

theorem IK {f:BH}{ps:List Nat}{n nb:Nat}{Ed body:Code}{A B:Ay}{fn:FuncId}{first CL as:List Value}(hv:ev ts f= .func (.func fn) ⟨first⟩ ⟨CL⟩) (en:h.next=nb) (ha:Is (first++[.func (.yield nb) ⟨[]⟩ ⟨[]⟩]++CL) as)
 (hc:∀L0,L0=EX n ts ps Ed body->∃R,AW P fn lo ((h.bump 1).put nb (.loop L0)) as R/\
  ∀v h',R v h'->Quiet lo ((h.bump 1).put nb (.loop L0)) h'->∃L,h'.get nb=some (.loop L)/\L.state≠ .busy/\Q (FU L.pend) ts (h'.put nb .gone)):Gy P lo (.range f ps n Ed body A B) Q ts h:=by
 subst en
 obtain⟨R,⟨v,h',r,a⟩,hr⟩:=hc _ rfl
 rw[<-ha.eq]at a
 exact⟨fn,first,CL,hv,v,h',a,hr v h' r a.quiet⟩

theorem Dq {c:Ay}{l:List (Nat × Value)}(hl:Holds ts l) (hw:∀g,Gy P lo c Q (look g l) h):Gy P lo c Q ts h:=by
 have:=hw ts
 rwa [MA hl]at this


theorem sH {t:Nat}{v:Value}(hv:ts t=v):FZ P h ts (.tmp t)=some v:=by simp[FZ,hv]
theorem eG {a t n r off:Nat}{c l l':List Value}{e:TypeId}(ht:Dc P t=some true) (hn:sizeT P t=some n) (hp:ts a= .pointer (some ⟨r,off,none⟩)) (hg:h.get r=some (.cells c e)) (hl:cut c off n=some l) (hv:Is l l'):
 FZ P h ts (.cell a t)=some (.agg ⟨l'⟩):=by
 simp[FZ,ht,hn,JQ,hp,H.Bu,hg,Cr,hl,hv.eq]
theorem sJ {a t r off:Nat}{c:List Value}{e:TypeId}{v0 v:Value}(ht:Dc P t=some false) (hp:ts a= .pointer (some ⟨r,off,none⟩)) (hg:h.get r=some (.cells c e)) (hl:cut c off 1=some [v0]) (hv:v0=v):
 FZ P h ts (.cell a t)=some v:=by
 simp[FZ,ht,JR,hp,H.Bu,hg,Cr,hl,hv]
theorem Anr {R:Value->Prop}{e:Exit}(he:e= .normal\/e= .ret) (hr:R (.tuple #[])):(e= .normal\/e= .ret)/\∃v,Hg P h ts []=some v/\R v:=⟨he,_,rfl,hr⟩
theorem Anq {r:ResultVar}{R:Value->Prop}{x:Value}{e:Exit}(he:e= .normal\/e= .ret) (e1:FZ P h ts r=some x) (hr:R x):(e= .normal\/e= .ret)/\∃v,Hg P h ts [r]=some v/\R v:=⟨he,_,e1,hr⟩
theorem Abi {r s:ResultVar}{R:Value->Prop}{x y:Value}{e:Exit}(he:e= .normal\/e= .ret) (e1:FZ P h ts r=some x) (e2:FZ P h ts s=some y) (hr:R (.tuple #[x,y])):(e= .normal\/e= .ret)/\∃v,Hg P h ts [r,s]=some v/\R v:=
 ⟨he,_,by simp only[Hg,e1,e2,Option.bind_some,Option.map_some],hr⟩
theorem Anp {r s t:ResultVar}{R:Value->Prop}{x y z:Value}{e:Exit}(he:e= .normal\/e= .ret) (e1:FZ P h ts r=some x) (e2:FZ P h ts s=some y) (e3:FZ P h ts t=some z) (hr:R (.tuple #[x,y,z])):(e= .normal\/e= .ret)/\∃v,Hg P h ts [r,s,t]=some v/\R v:=
 ⟨he,_,by simp only[Hg,e1,e2,e3,Option.bind_some,Option.map_some],hr⟩
theorem CI {v:Value}{p:Prop} [Decidable p] (hv:v= .bool true) (hp:p):v= .bool (decide p):=by rw[hv];simp[hp]
theorem Ch {v:Value}{p:Prop} [Decidable p] (hv:v= .bool false) (hp:¬p):v= .bool (decide p):=by rw[hv];simp[hp]

end


section
variable {h h':H}{r r' n k lo:Nat}{x:BQ}{o:Option BQ}{a:Addr}{ol:Option (List Value)}
theorem Bv (h:H) (r:Nat) (x:BQ):(h.put r x).next=h.next:=rfl
theorem AY (h:H) (k:Nat):(h.bump k).next=h.next+k:=rfl
theorem KI (e:r'=r):(h.put r x).get r'=some x:=by subst e;simp[H.put]
theorem Oq (hne:r'≠r) (e:h.get r'=o):(h.put r x).get r'=o:=by rw[<-e];simp[H.put,hne]
theorem HB (e:h.get r'=o):(h.bump k).get r'=o:=e
theorem Nt (q:Quiet lo h h') (hr:r'<lo) (e:h.get r'=o):h'.get r'=o:=by rw[q.same r' hr];exact e
theorem KG (hne:a.block≠r) (e:h.Bu a n=ol):(h.put r x).Bu a n=ol:=by rw[<-e];simp[H.Bu,H.put,hne]
theorem Jl (e:h.Bu a n=ol):(h.bump k).Bu a n=ol:=e
theorem Hq (q:Quiet lo h h') (hr:a.block<lo) (e:h.Bu a n=ol):h'.Bu a n=ol:=by rw[<-e];simp[H.Bu,q.same _ hr]
theorem CP {off:Nat}{c:List Value}{e:TypeId}{l:List Value}(hg:h.get r=some (.cells c e)) (hl:cut c off n=some l):h.Bu ⟨r,off,none⟩ n=some l:=by
 simp[H.Bu,hg,Cr,hl]

theorem Di {off:Nat}{c:List Value}{e:TypeId}{v:Value}(hg:h.get r=some (.cells c e)) (hl:c[off]? =some v):h.Bu ⟨r,off,none⟩ 1=some [v]:=by
 refine CP hg ?_
 obtain⟨hlt,he⟩:=List.getElem?_eq_some_iff.1 hl
 unfold cut
 rw[if_pos (by omega),List.drop_eq_getElem_cons hlt,List.take_succ_cons,List.take_zero,he]
theorem Quiet.put' {lo:Nat}{h h':H}{r:Nat}{x:BQ}(q:Quiet lo h h') (hr:lo<=r) (hn:r<h'.next):Quiet lo h (h'.put r x):=q.trans (Quiet.put hr hn)
theorem Quiet.wD {lo:Nat}{h h':H}{k:Nat}(q:Quiet lo h h'):Quiet lo h (h'.bump k):=q.trans (Quiet.bump k)
theorem Quiet.trans' {lo lo':Nat}{h h' h'':H}(q:Quiet lo h h') (q':Quiet lo' h' h'') (hl:lo<=lo'):Quiet lo h h'':=q.trans (q'.mono hl)
def Same (m:Nat) (h h':H):Prop:=∀r,r<m->h'.get r=h.get r
theorem Same.refl (m:Nat) (h:H):Same m h h:=fun _ _=>rfl
theorem Same.put {m:Nat}{h h':H}{r:Nat}{x:BQ}(s:Same m h h') (hr:m<=r):Same m h (h'.put r x):=fun j hj=>by
 rw[<-s j hj];simp only[H.put];rw[if_neg (by omega)]
theorem Same.bump {m:Nat}{h h':H}{k:Nat}(s:Same m h h'):Same m h (h'.bump k):=s
theorem Same.quiet {m lo:Nat}{h h' h'':H}(s:Same m h h') (q:Quiet lo h' h'') (hl:m<=lo):Same m h h'':=fun j hj=>by rw[q.same j (by omega),s j hj]
theorem Same.Bu {m:Nat}{h h':H}(s:Same m h h') {a:Addr}(ha:a.block<m) (n:Nat):h'.Bu a n=h.Bu a n:=by simp[H.Bu,s _ ha]
theorem Same.mono {m m':Nat}{h h':H}(s:Same m h h') (hm:m'<=m):Same m' h h':=fun j hj=>s j (by omega)
theorem Same.trans {m:Nat}{h h' h'':H}(s:Same m h h') (t:Same m h' h''):Same m h h'':=fun j hj=>by rw[t j hj,s j hj]
theorem IY {m:Nat}(s:Same m h h') (ha:a.block<m) (e:h.Bu a n=ol):h'.Bu a n=ol:=by rw[s.Bu ha];exact e
theorem R7 {m:Nat}(s:Same m h h') (ha:r<m) (e:h.get r=o):h'.get r=o:=by rw[s r ha];exact e
def Ints (h:H) (a:Addr) (n:Nat) (f:Nat->Int):Prop:=∀i,i<n->h.Bu (BI a i) 1=some [.int .i64 (f i)]
theorem Ints.at {f:Nat->Int}{m:Nat}(hi:Ints h a n f) (h1:m<n):h.Bu (BI a (m*1)) 1=some [.int .i64 (f m)]:=by
 rw[Nat.mul_one];exact hi m h1
def QV (h:H) (a:Addr) (n:Nat) (g:Nat->Value):Prop:=∀i,i<n->h.Bu (BI a i) 1=some [g i]
theorem QV.at {g:Nat->Value}{m:Nat}(hi:QV h a n g) (h1:m<n):h.Bu (BI a (m*1)) 1=some [g m]:=by
 rw[Nat.mul_one];exact hi m h1
theorem QV.same {m:Nat}{g:Nat->Value}(hi:QV h a n g) (s:Same m h h') (ha:0<n->a.block<m):QV h' a n g:=fun i hlt=>by
 rw[s.Bu (a:=BI a i) (by have:=ha (by omega);exact this)];exact hi i hlt
def JP (h:H) (a:Addr) (n sz:Nat) (f:Nat->List Value):Prop:=∀i,i<n->h.Bu (BI a (i*sz)) sz=some (f i)
theorem JP.at {f:Nat->List Value}{m sz:Nat}(hi:JP h a n sz f) (h1:m<n):h.Bu (BI a (m*sz)) sz=some (f m):=hi m h1
theorem JP.same {m sz:Nat}{f:Nat->List Value}(hi:JP h a n sz f) (s:Same m h h') (ha:0<n->a.block<m):JP h' a n sz f:=fun i hlt=>by
 rw[s.Bu (a:=BI a (i*sz)) (by have:=ha (by omega);exact this)];exact hi i hlt
theorem Ints.same {m:Nat}{f:Nat->Int}(hi:Ints h a n f) (s:Same m h h') (ha:0<n->a.block<m):Ints h' a n f:=fun i hlt=>by
 rw[s.Bu (a:=BI a i) (by have:=ha (by omega);exact this)];exact hi i hlt
theorem Ints.same' {m:Nat}{f:Nat->Int}(ha:0<n->a.block<m) (hi:Ints h a n f) (s:Same m h h'):Ints h' a n f:=hi.same s ha
end

theorem AW.args {P:Program}{f:FuncId}{lo:Nat}{h:H}{as as':List Value}{R:Value->H->Prop}(hc:AW P f lo h as' R) (e:Is as' as):AW P f lo h as R:=by rw[<-e.eq];exact hc

theorem AW.arg1 {P:Program}{f:FuncId}{lo:Nat}{h:H}{l l' rest:List Value}{R:Value->H->Prop}(hc:AW P f lo h (.agg ⟨l'⟩::rest) R) (e:Is l' l):AW P f lo h (.agg ⟨l⟩::rest) R:=by rw[<-e.eq];exact hc
theorem AW.wF {P:Program}{f:FuncId}{lo:Nat}{h:H}{l l' m m' rest:List Value}{R:Value->H->Prop}(hc:AW P f lo h (.agg ⟨l'⟩:: .agg ⟨m'⟩::rest) R) (e:Is l' l) (e':Is m' m):AW P f lo h (.agg ⟨l⟩:: .agg ⟨m⟩::rest) R:=by rw[<-e.eq,<-e'.eq];exact hc

theorem AW.qo {P:Program}{f:FuncId}{lo:Nat}{h:H}{l l' m m' n n' rest:List Value}{R:Value->H->Prop}(hc:AW P f lo h (.agg ⟨l'⟩:: .agg ⟨m'⟩:: .agg ⟨n'⟩::rest) R) (e:Is l' l) (e':Is m' m) (e'':Is n' n):AW P f lo h (.agg ⟨l⟩:: .agg ⟨m⟩:: .agg ⟨n⟩::rest) R:=by
 rw[<-e.eq,<-e'.eq,<-e''.eq];exact hc

end AE

/- Walking by evaluation: the weakest precondition turned into questions, one after the other; what lies between two questions is evaluated. -/
namespace AE
open Go


structure Need (p k:Prop):Prop where
 h:p
 k:k
structure Fork (p q a b:Prop):Prop where
 l:p->a
 r:q->b
inductive Start (n l:Nat) (k:Nat->Nat->Prop):Prop
 |mk {nb j:Nat} (e:n=nb) (e':l=j) (h:k nb j)
inductive Ei (h:H) (a:Addr) (k:Value->Prop):Prop
 |mk {v0 v:Value} (e:h.Bu a 1=some [v0]) (f:v0=v) (h:k v)
inductive Mi (h:H) (a:Addr) (n:Nat) (k:List Value->Prop):Prop
 |mk {l0 l:List Value} (e:h.Bu a n=some l0) (f:Is l0 l) (h:k l)
inductive Xq (lo:Nat) (h:H) (ad:Addr) (n:Nat) (vs:List Value) (k:H->Prop):Prop
 |mk {r off:Nat} {c c':List Value} {e:TypeId} (ha:ad=⟨r,off,none⟩) (hlo:lo<=r) (hget:h.get r=some (.cells c e)) (hn:vs.length=n) (ho:vs.all Value.oneCell'=true) (hl:Nat.ble (off+n) c.length=true) (hc:Is (splice c off vs) c') (hk:k (h.put r (.cells c' e)))
 |raw {h':H} (e:h.En lo ad vs=some h') (hn:vs.length=n) (hk:k h')
inductive Ix (b:Option Addr) (n:Nat) (z:Int) (k:Addr->Nat->Prop):Prop
 |mk {a:Addr} {m:Nat} (hb:b=some a) (hz:z=(m:Int)) (hm:m<n) (hk:k a m)
inductive qR (n:Nat) (z:Int) (k:Nat->Prop):Prop
 |mk {m:Nat} (hz:z=(m:Int)) (hm:m<n) (hk:k m)
inductive Wrap (t:IntKind) (x:Int) (k:Int->Prop):Prop
 |mk {y:Int} (e:t.wrap x=y) (h:k y)
inductive TP (P:Program) (g lo:Nat) (q:Bool) (h:H) (fv:Value) (args as:List Value) (k:Value->H->Prop):Prop
 |mk {v:Value} {h':H} (a:AF P g (if q then h.next else lo) h as v h') (hk:k v h')
 |raw {v:Value} {h':H} (a:CX P fv (if q then h.next else lo) h args v h') (hk:k v h')
inductive gH (P:Program) (fv:Value) (lo:Nat) (q:Bool) (h:H) (args:List Value) (k:Value->H->Prop):Prop
 |mk {v:Value} {h':H} (a:CX P fv (if q then h.next else lo) h args v h') (hk:k v h')
inductive DT (P:Program) (lo Br:Nat) (ts:Ts) (h:H) (ao:B9) (k:Value->H->Prop):Prop
 |mk {v:Value} {h':H} (e:C6 P lo Br ts h ao=some (v,h')) (hk:k v h')
inductive New (n:Nat) (k:Nat->Prop):Prop
 |mk {m:Nat} (e:n=m) (h:k m)
theorem New.out {n:Nat}{k:Nat->Prop}(h:New n k):k n:=by obtain⟨e,h⟩:=h;subst e;exact h
structure At (p:Prop):Prop where
 h:p


def H6:Value->(Value->Prop)->Prop
 |.bool b,k=>k (.bool b)
 |.int t n,k=>k (.int t n)
 |.float t n,k=>k (.float t n)
 |.complex t n m,k=>k (.complex t n m)
 |.string s,k=>k (.string s)
 |.pointer a,k=>k (.pointer a)
 |.slice a n c,k=>k (.slice a n c)
 |.map r,k=>k (.map r)
 |.chan r,k=>k (.chan r)
 |.func f a c,k=>k (.func f a c)
 |.nilFunc,k=>k .nilFunc
 |.iface t v,k=>k (.iface t v)
 |.nilIface,k=>k .nilIface
 |.agg c,k=>k (.agg c)
 |.tuple c,k=>k (.tuple c)
theorem Eo {v:Value}{k:Value->Prop}:H6 v k↔k v:=by cases v<;>exact Iff.rfl
theorem cg {v:Value}{k:Value->Prop}(h:k v):H6 v k:=Eo.2 h
def Tc:List Value->(List Value->Prop)->Prop
 |[],k=>k []
 |v::l,k=>H6 v fun v'=>Tc l fun l'=>k (v'::l')
theorem NJ:∀{l:List Value}{k:List Value->Prop},Tc l k↔k l
 |[],_=>Iff.rfl
 |v::l,k=>by simp only[Tc,Eo,NJ]
theorem ck {l:List Value}{k:List Value->Prop}(h:k l):Tc l k:=NJ.2 h
def sK:List Value->Nat->(Value->Prop)->Prop
 |[],_,_=>False
 |v::_,0,k=>H6 v k
 |_::l,i+1,k=>sK l i k
theorem Sy:∀{l:List Value}{i:Nat}{k:Value->Prop},sK l i k->∃v,l[i]? =some v/\k v
 |[],_,_,h=>h.elim
 |v::_,0,_,h=>⟨v,rfl,Eo.1 h⟩
 |_::l,i+1,k,h=>by simpa using Sy (l:=l) (i:=i) (k:=k) h
def takeC:List Value->Nat->(List Value->Prop)->Prop
 |_,0,k=>k []
 |[],_+1,_=>False
 |v::l,n+1,k=>H6 v fun v'=>takeC l n fun r=>k (v'::r)
theorem Uz:∀{l:List Value}{n:Nat}{k:List Value->Prop},takeC l n k->n<=l.length/\k (l.take n)
 |l,0,k,h=>by cases l<;>exact⟨Nat.zero_le _,h⟩
 |[],_+1,_,h=>h.elim
 | v::l,n+1,k,h=>by
   simp only[takeC,Eo]at h
   have:=Uz h
   exact⟨by simp;exact this.1,by simpa using this.2⟩
def Abt:List Value->Nat->Nat->(List Value->Prop)->Prop
 |l,0,n,k=>takeC l n k
 |[],_+1,_,_=>False
 |_::l,i+1,n,k=>Abt l i n k
theorem Zd:∀{l:List Value}{i n:Nat}{k:List Value->Prop},Abt l i n k->∃r,cut l i n=some r/\k r
 | l,0,n,k,h=>by
   have h:takeC l n k:=by cases l<;>exact h
   have:=Uz h
   exact⟨_,by unfold cut;rw[if_pos (by omega)],by simpa using this.2⟩
 |[],_+1,_,_,h=>h.elim
 | _::l,i+1,n,k,h=>by
   obtain⟨r,h1,h2⟩:=Zd (l:=l) h
   refine⟨r,?_,h2⟩
   unfold cut at*
   split at h1
   ·rw[if_pos (by simp;omega)];simpa using h1
   ·cases h1
def Yf:List Value->Nat->List Value->(List Value->Prop)->Prop
 |z,0,[],k=>k z
 |_::z,n+1,c::cs,k=>H6 c fun c'=>Yf z n cs fun r=>k (c'::r)
 |_,_,_,_=>False
theorem UK:∀{z:List Value}{n:Nat}{cs:List Value}{k:List Value->Prop},Yf z n cs k->cs.length=n/\n<=z.length/\k (cs++z.drop n)
 | z,0,[],k,h=>by
   have h:k z:=by cases z<;>exact h
   exact⟨rfl,Nat.zero_le _,by simpa using h⟩
 | _::z,n+1,c::cs,k,h=>by
   simp only[Yf,Eo]at h
   obtain⟨h1,h2,h3⟩:=UK h
   exact⟨by simp[h1],by simp;exact h2,by simpa using h3⟩
 |[],n+1,cs,_,h=>by cases cs<;>exact h.elim
 |z,0,_::_,_,h=>by cases z<;>exact h.elim
 |_::_,_+1,[],_,h=>h.elim
def VR:List Value->Nat->Nat->List Value->(List Value->Prop)->Prop
 |z,0,n,cs,k=>Yf z n cs k
 |[],_+1,_,_,_=>False
 |v::z,i+1,n,cs,k=>VR z i n cs fun r=>k (v::r)
theorem Qm:∀{z:List Value}{i n:Nat}{cs:List Value}{k:List Value->Prop},VR z i n cs k->cs.length=n/\i+n<=z.length/\k (splice z i cs)
 | z,0,n,cs,k,h=>by
   have h:Yf z n cs k:=by cases z<;>exact h
   obtain⟨h1,h2,h3⟩:=UK h
   refine⟨h1,by omega,?_⟩
   unfold splice
   simpa[h1]using h3
 |[],_+1,_,_,_,h=>h.elim
 | v::z,i+1,n,cs,k,h=>by
   obtain⟨h1,h2,h3⟩:=Qm (z:=z) h
   refine⟨h1,by simp;omega,?_⟩
   unfold splice at*
   have e:i+1+cs.length=(i+cs.length)+1:=by omega
   simpa[e]using h3

def Tq:Value->(List Value->Prop)->Prop
 |.agg ⟨l⟩,k=>Tc l k
 |v,k=>H6 v fun v'=>k [v']
theorem NP {v:Value}{k:List Value->Prop}(h:Tq v k):k (Bf v):=by
 unfold Tq at h
 split at h
 ·exact NJ.1 h
 ·rename_i hv
  have h:=Eo.1 h
  have:Bf v=[v]:=by
   cases v with
   |agg c=>obtain⟨l⟩:=c;exact(hv l rfl).elim
   |_=>rfl
  rw[this];exact h
def fG (ts:Ts):List Value->List (Nat × Nat × BH)->(List Value->Prop)->Prop
 |z,[],k=>k z
 |z,(off,size,x)::ps,k=>Tq (ev ts x) fun cs=>VR z off size cs fun z'=>fG ts z' ps k
theorem PZ {ts:Ts}:∀{ps:List (Nat × Nat × BH)} {z:List Value} {k:List Value->Prop},fG ts z ps k->∃l,Hl ts z ps=some l/\k l
 |[],z,k,h=>⟨z,rfl,h⟩
 | (off,size,x)::ps,z,k,h=>by
   obtain⟨h1,h2,h3⟩:=Qm (NP h)
   obtain⟨l,e,hk⟩:=PZ h3
   refine⟨l,?_,hk⟩
   simp only[Hl]
   rw[if_pos ⟨h1,h2⟩]
   exact e
def jJ (ts:Ts):List BH->(List Value->Prop)->Prop
 |[],k=>k []
 |x::xs,k=>H6 (ev ts x) fun v=>jJ ts xs fun l=>k (v::l)
theorem OV {ts:Ts}:∀{xs:List BH} {k:List Value->Prop},jJ ts xs k↔k (xs.map (ev ts))
 |[],_=>Iff.rfl
 |x::xs,k=>by simp only[jJ,Eo,OV,List.map_cons]
def qx:List Value->List Value->(List Value->Prop)->Prop
 |[],l,k=>k l
 |v::l',l,k=>qx l' l fun r=>k (v::r)
theorem Me:∀{a b:List Value}{k:List Value->Prop},qx a b k↔k (a++b)
 |[],_,_=>Iff.rfl
 |v::a,b,k=>by simp only[qx,Me,List.cons_append]


def Ya:Value->(Addr->Prop)->Prop
 |.pointer (some a),k=>k a
 |_,_=>False
theorem J7 {v:Value}{k:Addr->Prop}(h:Ya v k):∃a,v= .pointer (some a)/\k a:=by
 unfold Ya at h;split at h
 ·exact⟨_,rfl,h⟩
 ·exact h.elim
def uV:Value->(List Value->Prop)->Prop
 |.agg ⟨l⟩,k=>k l
 |_,_=>False
theorem Zw {v:Value}{k:List Value->Prop}(h:uV v k):∃l,v= .agg ⟨l⟩/\k l:=by
 unfold uV at h;split at h
 ·exact⟨_,rfl,h⟩
 ·exact h.elim
def OM:Value->(Int->Prop)->Prop
 |.int .i64 a,k=>k a
 |_,_=>False
theorem Hw {v:Value}{k:Int->Prop}(h:OM v k):∃a,v= .int .i64 a/\k a:=by
 unfold OM at h;split at h
 ·exact⟨_,rfl,h⟩
 ·exact h.elim
def qz:Value->(IntKind->Int->Prop)->Prop
 |.int t a,k=>k t a
 |_,_=>False
theorem TB {v:Value}{k:IntKind->Int->Prop}(h:qz v k):∃t a,v= .int t a/\k t a:=by
 unfold qz at h;split at h
 ·exact⟨_,_,rfl,h⟩
 ·exact h.elim
def Zs:Value->Prop->Prop->Prop
 |.bool true,a,_=>a
 |.bool false,_,b=>b
 |_,_,_=>False
theorem P9 {v:Value}{a b:Prop}(h:Zs v a b):(v= .bool true/\a)\/(v= .bool false/\b):=by
 unfold Zs at h;split at h
 ·exact .inl ⟨rfl,h⟩
 ·exact .inr ⟨rfl,h⟩
 ·exact h.elim
inductive ArQ (x:Int) (k:Int->Prop):Prop
 |ok (h: -9223372036854775808<=x/\x<9223372036854775808) (hk:k x)
 |wr (hk:k (Xp x))
theorem ArQ.out {x:Int}{k:Int->Prop}(h:ArQ x k):k (Xp x):=by
 rcases h with⟨h,hk⟩|hk
 ·rw[Lm h];exact hk
 ·exact hk
def Aea (k:Value->Prop) (a b:Int):qH->Prop
 |.add=>ArQ (a+b) fun z=>k (.int .i64 z)
 |.sub=>ArQ (a - b) fun z=>k (.int .i64 z)
 |.mul=>ArQ (a*b) fun z=>k (.int .i64 z)
 |.eql=>Fork (a=b) (a≠b) (k (.bool true)) (k (.bool false))
 |.neq=>Fork (a≠b) (a=b) (k (.bool true)) (k (.bool false))
 |.lss=>Fork (a<b) (b<=a) (k (.bool true)) (k (.bool false))
 |.leq=>Fork (a<=b) (b<a) (k (.bool true)) (k (.bool false))
 |.gtr=>Fork (b<a) (a<=b) (k (.bool true)) (k (.bool false))
 |.geq=>Fork (b<=a) (a<b) (k (.bool true)) (k (.bool false))
theorem nO {k:Value->Prop}{a b:Int}{op:qH}(h:Aea k a b op):k (ZK op a b):=by
 cases op
 case add=>exact h.out
 case sub=>exact h.out
 case mul=>exact h.out
 case eql=>
  by_cases c:a=b
  ·have:=h.l c;simpa[ZK,c]using this
  ·show k (.bool (a==b));rw[show(a==b)=false by simp[c]];exact h.r c
 case neq=>
  by_cases c:a=b
  ·have:=h.r c;simpa[ZK,c]using this
  ·show k (.bool (a !=b));rw[show(a !=b)=true by simp[c]];exact h.l c
 case lss=>
  by_cases c:a<b
  ·have:=h.l c;simpa[ZK,c]using this
  ·have:=h.r (by omega);simpa[ZK,c]using this
 case leq=>
  by_cases c:a<=b
  ·have:=h.l c;simpa[ZK,c]using this
  ·have:=h.r (by omega);simpa[ZK,c]using this
 case gtr=>
  by_cases c:b<a
  ·have:=h.l c;simpa[ZK,c]using this
  ·have:=h.r (by omega);simpa[ZK,c]using this
 case geq=>
  by_cases c:b<=a
  ·have:=h.l c;simpa[ZK,c]using this
  ·have:=h.r (by omega);simpa[ZK,c]using this
inductive vp (a b:Int) (k:Int->Prop):Prop
 |nn (h:0<=a/\a<9223372036854775808/\0<b) (hk:k (a / b))
 |td (h: -9223372036854775808<a/\a<9223372036854775808/\b≠0) (hk:k (a.tdiv b))
inductive Ajf (a b:Int) (k:Int->Prop):Prop
 |nn (h:0<=a/\0<b) (hk:k (a%b))
 |tm (h:b≠0) (hk:k (a.tmod b))
def divC (k:Value->Prop) (a b:Int):Bool->Prop
 |true=>vp a b fun z=>k (.int .i64 z)
 |false=>Ajf a b fun z=>k (.int .i64 z)
theorem rF {a b:Int}(h1: -9223372036854775808<a) (h2:a<9223372036854775808): -9223372036854775808<=a.tdiv b/\a.tdiv b<9223372036854775808:=by
 have:(a.tdiv b).natAbs<=a.natAbs:=by
  rw[Int.natAbs_tdiv]
  exact Nat.div_le_self _ _
 omega
theorem px {k:Value->Prop}{a b:Int}{q:Bool}(h:divC k a b q):∃v,Qj q (.int .i64 a) (.int .i64 b)=some v/\k v:=by
 cases q
 ·rcases h with⟨⟨h1,h2⟩,hk⟩|⟨h1,hk⟩
  ·have e:a.tmod b=a%b:=Int.tmod_eq_emod_of_nonneg h1
   exact⟨_,by simp[Qj,e];omega,hk⟩
  ·exact⟨_,by simp[Qj,h1],hk⟩
 ·rcases h with⟨⟨h0,h1,h2⟩,hk⟩|⟨⟨h1,h2,h3⟩,hk⟩
  ·have e:a.tdiv b=a / b:=Int.tdiv_eq_ediv_of_nonneg h0
   have h3:0<=a / b:=Int.ediv_nonneg h0 (by omega)
   have h4:a / b<=a:=Int.ediv_le_self _ h0
   have hw:Xp (a / b)=a / b:=Lm (by omega)
   exact⟨_,by simp[Qj,e,hw];omega,hk⟩
  ·have hw:Xp (a.tdiv b)=a.tdiv b:=Lm (rF h1 h2)
   exact⟨_,by simp[Qj,h3,hw],hk⟩
def vE (k:Value->Prop) (a b:Int):Bool->Prop
 |true=>k (.int .i64 (max a b))
 |false=>k (.int .i64 (min a b))
theorem iZ {k:Value->Prop}{a b:Int}{m:Bool}(h:vE k a b m):∃v,Um m (.int .i64 a) (.int .i64 b)=some v/\k v:=by
 cases m
 ·refine⟨_,?_,h⟩
  have:(if b<a then b else a)=min a b:=by split<;>omega
  simp[Um,this]
 ·refine⟨_,?_,h⟩
  have:(if a<b then b else a)=max a b:=by split<;>omega
  simp[Um,this]
def slC:Value->(Option Addr->Nat->Nat->Prop)->Prop
 |.slice b n c,k=>k b n c
 |_,_=>False
theorem dP {v:Value}{k:Option Addr->Nat->Nat->Prop}(h:slC v k):∃b n c,v= .slice b n c/\k b n c:=by
 unfold slC at h;split at h
 ·exact⟨_,_,_,rfl,h⟩
 ·exact h.elim
def wX:Value->(List Value->Prop)->Prop
 |.tuple ⟨l⟩,k=>k l
 |_,_=>False
theorem lI {v:Value}{k:List Value->Prop}(h:wX v k):∃l,v= .tuple ⟨l⟩/\k l:=by
 unfold wX at h;split at h
 ·exact⟨_,rfl,h⟩
 ·exact h.elim
def negC (k:Value->Prop) (a:Int):Prop:=Need (-9223372036854775808<a/\a<9223372036854775808) (k (.int .i64 (-a)))

def opC (P:Program) (lo Br:Nat) (ts:Ts) (h:H) (k:Value->H->Prop):B9->Prop
 |.mv x=>H6 (ev ts x) fun v=>k v h
 |.pick c a b=>Zs (ev ts c) (H6 (ev ts a) fun v=>k v h) (H6 (ev ts b) fun v=>k v h)
 |.alloc z e=>New Br fun Br=>k (.pointer (some ⟨Br,0,none⟩)) (h.put Br (.cells z e))
 |.box x e=>Tq (ev ts x) fun cs=>New Br fun Br=>k (.pointer (some ⟨Br,0,none⟩)) (h.put Br (.cells cs e))
 |.build z ps=>fG ts z ps fun l=>k (.agg ⟨l⟩) h
 |.BF z ps len e=>fG ts z ps fun l=>New Br fun Br=>k (.slice (some ⟨Br,0,none⟩) len len) (h.put Br (.cells l e))
 |.Af a=>Ya (ev ts a) fun ad=>Ei h ad fun v=>k v h
 |.Az n a=>Ya (ev ts a) fun ad=>Mi h ad n fun l=>k (.agg ⟨l⟩) h
 |.store n a x=>Ya (ev ts a) fun ad=>Tq (ev ts x) fun cs=>Xq lo h ad n cs fun h'=>k undef h'
 |.BP x=>Ya (ev ts x) fun a=>k (.pointer (some a)) h
 |.int op x y=>OM (ev ts x) fun a=>OM (ev ts y) fun b=>Aea (fun v=>k v h) a b op
 |.EV q x y=>OM (ev ts x) fun a=>OM (ev ts y) fun b=>divC (fun v=>k v h) a b q
 |.not x=>Zs (ev ts x) (k (.bool false) h) (k (.bool true) h)
 |.neg x=>OM (ev ts x) fun a=>negC (fun v=>k v h) a
 |.conv t x=>qz (ev ts x) fun _ a=>Wrap t a fun a=>k (.int t a) h
 |.Il m x y=>OM (ev ts x) fun a=>OM (ev ts y) fun b=>vE (fun v=>k v h) a b m
 |.Wl t x=>H6 (ev ts x) fun v=>k (.iface t v) h
 |.Hf fn fs cs=>jJ ts fs fun l=>jJ ts cs fun m=>k (.func fn ⟨l⟩ ⟨m⟩) h
 |.Ai off x=>Ya (ev ts x) fun a=>k (.pointer (some (BI a off))) h
 |.field1 off x=>uV (ev ts x) fun l=>sK l off fun v=>k v h
 |.Tg off n x=>uV (ev ts x) fun l=>Abt l off n fun l'=>k (.agg ⟨l'⟩) h
 |.Bb sz x i=>slC (ev ts x) fun b n _=>qz (ev ts i) fun _ z=>Ix b n z fun a m=>k (.pointer (some (BI a (m*sz)))) h
 |.Cc n sz x i=>Ya (ev ts x) fun a=>qz (ev ts i) fun _ z=>qR n z fun m=>k (.pointer (some (BI a (m*sz)))) h
 |.extract x i=>wX (ev ts x) fun l=>sK l i fun v=>k v h
 |.len x=>slC (ev ts x) fun _ n _=>k (.int .i64 n) h
 |o=>New Br fun Br=>DT P lo Br ts h o k

set_option maxHeartbeats 1000000 in
theorem sG {P:Program}{lo Br:Nat}{ts:Ts}{h:H}{k:Value->H->Prop}{o:B9}(hc:opC P lo Br ts h k o):∃v h',C6 P lo Br ts h o=some (v,h')/\k v h':=by
 cases o<;>simp only[opC]at hc
 case mv x=>exact⟨_,_,rfl,Eo.1 hc⟩
 case pick c a b=>
  rcases P9 hc with⟨e,hk⟩|⟨e,hk⟩
  ·exact⟨_,_,by simp[C6,keep,Ul,e],Eo.1 hk⟩
  ·exact⟨_,_,by simp[C6,keep,Ul,e],Eo.1 hk⟩
 case alloc z e=>exact⟨_,_,rfl,hc.out⟩
 case box x e=>exact⟨_,_,rfl,(NP hc).out⟩
 case build z ps=>
  obtain⟨l,e,hk⟩:=PZ hc
  exact⟨_,_,by simp[C6,keep,e],hk⟩
 case BF z ps len e=>
  obtain⟨l,e,hk⟩:=PZ hc
  exact⟨_,_,by simp[C6,e],hk.out⟩
 case Af a=>
  obtain⟨ad,e,hk⟩:=J7 hc
  obtain⟨e1,e2,e3⟩:=hk
  subst e2
  exact⟨_,_,by simp[C6,keep,JR,e,e1],e3⟩
 case Az n a=>
  obtain⟨ad,e,hk⟩:=J7 hc
  obtain⟨e1,e2,e3⟩:=hk
  have e2:=e2.eq
  subst e2
  exact⟨_,_,by simp[C6,keep,JQ,e,e1],e3⟩
 case store n a x=>
  obtain⟨ad,e,hk⟩:=J7 hc
  have hk:=NP hk
  rcases hk with⟨ha,hlo,hget,hn,ho,hl,hcc,hk⟩|⟨hst,hn,hk⟩
  rotate_left
  ·refine⟨_,_,?_,hk⟩
   simp[C6,Kv,e,hst,hn]
  subst ha
  have hcc:=hcc.eq
  subst hcc
  refine⟨_,_,?_,hk⟩
  have hl':=Nat.le_of_ble_eq_true hl
  subst hn
  have ho':∀a∈Bf (ev ts x),a.oneCell'=true:=by simpa using ho
  simp[C6,Kv,e,H.En,hlo,hget,DI,hl']
  exact ho'
 case BP x=>
  obtain⟨ad,e,hk⟩:=J7 hc
  exact⟨_,_,by simp[C6,keep,Ry,e],hk⟩
 case int op x y=>
  obtain⟨a,e1,hk⟩:=Hw hc
  obtain⟨b,e2,hk⟩:=Hw hk
  exact⟨_,_,by simp[C6,keep,kV,e1,e2],nO hk⟩
 case EV q x y=>
  obtain⟨a,e1,hk⟩:=Hw hc
  obtain⟨b,e2,hk⟩:=Hw hk
  obtain⟨v,e3,hk⟩:=px hk
  exact⟨_,_,by simp[C6,keep,e1,e2,e3],hk⟩
 case not x=>
  rcases P9 hc with⟨e,hk⟩|⟨e,hk⟩
  ·exact⟨_,_,by simp[C6,keep,gJ,e],hk⟩
  ·exact⟨_,_,by simp[C6,keep,gJ,e],hk⟩
 case neg x=>
  obtain⟨a,e1,hk⟩:=Hw hc
  have hn:=hk.h
  have:Xp (0 - a)= -a:=by rw[Lm (by omega)];omega
  exact⟨_,_,by simp only[C6,keep,qX,e1,this,Option.map],hk.k⟩
 case conv t x=>
  obtain⟨t',a,e1,hk⟩:=TB hc
  obtain⟨hw,hk⟩:=hk
  exact⟨_,_,by simp only[C6,keep,dD,e1,hw,Option.map],hk⟩
 case Il m x y=>
  obtain⟨a,e1,hk⟩:=Hw hc
  obtain⟨b,e2,hk⟩:=Hw hk
  obtain⟨v,e3,hk⟩:=iZ hk
  exact⟨_,_,by simp[C6,keep,e1,e2,e3],hk⟩
 case Wl t x=>exact⟨_,_,rfl,Eo.1 hc⟩
 case Hf fn fs cs=>exact⟨_,_,rfl,OV.1 (OV.1 hc)⟩
 case Ai off x=>
  obtain⟨ad,e,hk⟩:=J7 hc
  exact⟨_,_,by simp[C6,keep,RA,e],hk⟩
 case field1 off x=>
  obtain⟨l,e,hk⟩:=Zw hc
  obtain⟨v,e2,hk⟩:=Sy hk
  exact⟨_,_,by simp[C6,keep,N7,e,e2],hk⟩
 case Tg off n x=>
  obtain⟨l,e,hk⟩:=Zw hc
  obtain⟨v,e2,hk⟩:=Zd hk
  exact⟨_,_,by simp[C6,keep,QX,e,e2],hk⟩
 case Bb sz x i=>
  obtain⟨b,n,c,e,hk⟩:=dP hc
  obtain⟨t,z,e2,hk⟩:=TB hk
  obtain⟨hb,hz,hm,hk'⟩:=hk
  subst hb hz
  exact⟨_,_,by simp[C6,keep,Xx,e,e2,C9,hm],hk'⟩
 case Cc n sz x i=>
  obtain⟨a,e,hk⟩:=J7 hc
  obtain⟨t,z,e2,hk⟩:=TB hk
  obtain⟨hz,hm,hk'⟩:=hk
  subst hz
  exact⟨_,_,by simp[C6,keep,Rz,e,e2,C9,hm],hk'⟩
 case extract x i=>
  obtain⟨l,e,hk⟩:=lI hc
  obtain⟨v,e2,hk⟩:=Sy hk
  exact⟨_,_,by simp[C6,keep,Ll,e,e2],hk⟩
 case len x=>
  obtain⟨b,n,c,e,hk⟩:=dP hc
  exact⟨_,_,by simp[C6,keep,kT,e],hk⟩
 all_goals
  obtain⟨e,hk⟩:=hc.out
  exact⟨_,_,e,hk⟩


def Zo (P:Program) (lo:Nat) (q:Bool) (h:H) (args:List Value) (k:Value->H->Prop):Value->Prop
 |.func (.func g) ⟨first⟩ ⟨CL⟩=>qx args CL fun l=>qx first l fun as=>TP P g lo q h (.func (.func g) ⟨first⟩ ⟨CL⟩) args as k
 |fv=>gH P fv lo q h args k
theorem jU {P:Program}{lo:Nat}{q:Bool}{h:H}{args:List Value}{k:Value->H->Prop}{fv:Value}(hc:gH P fv lo q h args k):Zo P lo q h args k fv:=by
 unfold Zo
 split
 ·rename_i g first CL
  obtain⟨a,hk⟩:=hc
  exact Me.2 (Me.2 (.raw a hk))
 ·exact hc
theorem jT {P:Program}{lo:Nat}{q:Bool}{h:H}{args:List Value}{k:Value->H->Prop}{fv:Value}(hc:Zo P lo q h args k fv):∃v h',CX P fv (if q then h.next else lo) h args v h'/\k v h':=by
 unfold Zo at hc
 split at hc
 ·rename_i g first CL
  have:=Me.1 (Me.1 hc)
  rcases this with⟨a,hk⟩|⟨a,hk⟩
  ·rw[<-List.append_assoc]at a
   exact⟨_,_,AF.Vv a,hk⟩
  ·exact⟨_,_,a,hk⟩
 ·obtain⟨a,hk⟩:=hc
  exact⟨_,_,a,hk⟩

def oH (b:Bool) (x y:Prop):Prop:=match b with
 |true=>x
 |false=>y
theorem U9 {b:Bool}{x y:Prop}(h:oH b x y):(b=true/\x)\/(b=false/\y):=by
 cases b
 ·exact .inr ⟨rfl,h⟩
 ·exact .inl ⟨rfl,h⟩
def yj (P:Program) (lo:Nat) (q:Bool) (Br:Nat) (ts:Ts) (h:H) (k:Value->H->Prop):Qh->Prop
 |.op ao=>opC P lo Br ts h k ao
 |.call f args=>jJ ts args fun as=>Zo P lo q h as k (ev ts f)
def Fb (ts:Ts) (v:Value) (k:Ts->Prop):Option Nat->Prop
 |some d=>k (QN ts d v)
 |none=>k ts
theorem Cd {ts:Ts}{v:Value}{k:Ts->Prop}{d:Option Nat}(h:Fb ts v k d):k (G0 ts v d):=by
 cases d with
 |none=>exact h
 |some d=>rw[<-qv];exact h
def iI (P:Program) (lo:Nat) (q:Bool) (base:Nat) (K:Ts->H->Prop):Nat->List A7->Ts->H->Prop
 |_,[]=>K
 |i,⟨d,g,ins⟩::rest=>fun ts h=>oH (CN ts g) (yj P lo q (base+i) ts h (fun v h'=>Fb ts v (fun ts'=>iI P lo q base K (i+1) rest ts' h') d) ins) (Fb ts undef (fun ts'=>iI P lo q base K (i+1) rest ts' h) d)
theorem Lu {P:Program}{lo base:Nat}{q:Bool}{K:Ts->H->Prop}:∀{xs:List A7} {i:Nat} {ts:Ts} {h:H},iI P lo q base K i xs ts h->Run P lo q base i xs K ts h
 |[],_,_,_,h=>h
 | ⟨d,g,ins⟩::rest,i,ts,h,hc=>by
   simp only[iI]at hc
   simp only[Run]
   rcases U9 hc with⟨e,hk⟩|⟨e,hk⟩
   ·rw[if_pos e]
    cases ins with
    | op ao=>
      simp only[yj]at hk
      obtain⟨v,h',ha,hk⟩:=sG hk
      exact⟨v,h',ha,Lu (Cd hk)⟩
    | call f args=>
      simp only[yj]at hk
      obtain⟨v,h',ha,hk⟩:=jT (OV.1 hk)
      exact⟨v,h',ha,Lu (Cd hk)⟩
   ·rw[if_neg (by simp[e])]
    exact Lu (Cd hk)

def vu (K:Ts->H->Prop) (Q:Exit->Ts->H->Prop):Exit->Ts->H->Prop
 |.normal=>K
 |e=>Q e
theorem lP (K:Ts->H->Prop) (Q:Exit->Ts->H->Prop):vu K Q=EW K Q:=by
 funext e ts h
 cases e<;>rfl
def cO (id:Nat) (Q:Exit->Ts->H->Prop):Exit->Ts->H->Prop
 |.exit id'=>fun ts h=>oH (Nat.beq id' id) (Q .normal ts h) (Q (.exit id') ts h)
 |e=>Q e
theorem cN {id:Nat}{Q:Exit->Ts->H->Prop}{e:Exit}{ts:Ts}{h:H}(hc:cO id Q e ts h):EU id Q e ts h:=by
 cases e<;>first|exact hc|skip
 rename_i id'
 simp only[cO]at hc
 simp only[EU]
 rcases U9 hc with⟨e,hk⟩|⟨e,hk⟩
 ·rw[if_pos (Nat.eq_of_beq_eq_true e)];exact hk
 ·rw[if_neg (fun c=>by subst c;simp at e)];exact hk
def apC (ap:List (BH × BH)) (ts:Ts) (k:Prop):Prop:=match ap with
 |[]=>k
 |_::_=>Need (Apart ap ts) k
theorem uT {ap:List (BH × BH)}{ts:Ts}{k:Prop}(h:apC ap ts k):Apart ap ts/\k:=by
 cases ap with
 |nil=>exact⟨by simp[Apart],h⟩
 |cons _ _=>exact⟨h.h,h.k⟩

def wpC (P:Program) (lo:Nat):Ay->(Exit->Ts->H->Prop)->Ts->H->Prop
 |.skip,Q=>Q .normal
 |.ret,Q=>Q .ret
 |.exit id,Q=>Q (.exit id)
 |.seq a b,Q=>wpC P lo a (vu (wpC P lo b Q) Q)
 |.cond c a b,Q=>fun ts h=>Zs (ev ts c) (wpC P lo a Q ts h) (wpC P lo b Q ts h)
 |.block id c,Q=>wpC P lo c (cO id Q)
 |.reg ops,Q=>fun ts h=>Start h.next ops.length fun nb j=>iI P lo false nb (Q .normal) 0 ops ts (h.bump j)
 |.BN ops ap,Q=>fun ts h=>Start h.next ops.length fun nb j=>iI P lo true nb (fun ts' h'=>apC ap ts' (Q .normal ts' h')) 0 ops ts (h.bump j)
 |.loop c,Q=>fun ts h=>At (Gy P lo (.loop c) Q ts h)
 |.range f ps n Ed body x y,Q=>fun ts h=>At (Gy P lo (.range f ps n Ed body x y) Q ts h)
 |.next x a b,Q=>fun ts h=>At (Gy P lo (.next x a b) Q ts h)

theorem ME {F G:(Ts->H->Prop)->Ts->H->Prop}(hFG:∀K K':Ts->H->Prop,(∀ts h,K ts h->K' ts h)->∀ts h,F K ts h->G K' ts h):∀k ts h,iter F k ts h->iter G k ts h
 |0,_,_,h=>h
 |k+1,ts,h,hi=>hFG _ _ (ME hFG k) ts h hi
theorem Ga {P:Program}{lo base:Nat}{q:Bool}{K K':Ts->H->Prop}(hK:∀ts h,K ts h->K' ts h):∀{xs:List A7} {i:Nat} {ts:Ts} {h:H},Run P lo q base i xs K ts h->Run P lo q base i xs K' ts h
 |[],_,_,_,h=>hK _ _ h
 | o::rest,i,ts,h,hr=>by
   simp only[Run]at hr⊢
   split
   ·rename_i hw
    rw[if_pos hw]at hr
    cases hi:o.ins with
    | op ao=>
      rw[hi]at hr
      obtain⟨v,h',ha,hr⟩:=hr
      exact⟨v,h',ha,Ga hK hr⟩
    | call f args=>
      rw[hi]at hr
      obtain⟨v,h',ha,hr⟩:=hr
      exact⟨v,h',ha,Ga hK hr⟩
   ·rename_i hw
    rw[if_neg hw]at hr
    exact Ga hK hr
theorem Dh {P:Program}{lo:Nat}:∀(A:Ay) {Q Q':Exit->Ts->H->Prop},(∀e ts h,Q e ts h->Q' e ts h)->∀ts h,Gy P lo A Q ts h->Gy P lo A Q' ts h
 |.skip,_,_,hq,ts,h,w=>hq _ _ _ w
 |.ret,_,_,hq,ts,h,w=>hq _ _ _ w
 |.exit _,_,_,hq,ts,h,w=>hq _ _ _ w
 |.seq a b,Q,Q',hq,ts,h,w=>Dh a (Q:=EW (Gy P lo b Q) Q) (fun e ts h x=>by cases e<;>first|exact Dh b hq _ _ x|exact hq _ _ _ x) ts h w
 | .cond c a b,Q,Q',hq,ts,h,w=>by
   obtain⟨t,e,w⟩:=w
   refine⟨t,e,?_⟩
   split
   ·rename_i ht;rw[if_pos ht]at w;exact Dh a hq _ _ w
   ·rename_i ht;rw[if_neg ht]at w;exact Dh b hq _ _ w
 |.block id c,Q,Q',hq,ts,h,w=>Dh c (Q:=EU id Q) (fun e ts h x=>by
  cases e<;>first|exact hq _ _ _ x|skip
  simp only[EU]at x⊢
  split
  ·rename_i ht;rw[if_pos ht]at x;exact hq _ _ _ x
  ·rename_i ht;rw[if_neg ht]at x;exact hq _ _ _ x) ts h w
 | .loop c,Q,Q',hq,ts,h,w=>by
   obtain⟨k,w⟩:=w
   exact⟨k,ME (fun K K' hK ts h x=>Dh c (Q:=EW K Q) (fun e ts h y=>by cases e<;>first|exact hK _ _ y|exact hq _ _ _ y) ts h x) k ts h w⟩
 |.reg ops,Q,Q',hq,ts,h,w=>Ga (hq .normal) w
 |.BN ops ap,Q,Q',hq,ts,h,w=>Ga (K:=fun ts' h'=>Apart ap ts'/\Q .normal ts' h') (fun ts h x=>⟨x.1,hq _ _ _ x.2⟩) w
 | .range f ps n Ed body x y,Q,Q',hq,ts,h,w=>by
   obtain⟨g,first,CL,e,v,h',a,L,hL,hs,w⟩:=w
   exact⟨g,first,CL,e,v,h',a,L,hL,hs,hq _ _ _ w⟩
 | .next x a b,Q,Q',hq,ts,h,w=>by
   obtain⟨r,m,since,seen,c0,es,clock,e1,hlo,hrm,hg,hgm,hold,hsc,hw0,hw1⟩:=w
   exact⟨r,m,since,seen,c0,es,clock,e1,hlo,hrm,hg,hgm,hold,hsc,fun h=>hq _ _ _ (hw0 h),fun e he hn=>hq _ _ _ (hw1 e he hn)⟩

theorem Mp {P:Program}{lo:Nat}:∀(A:Ay) {Q:Exit->Ts->H->Prop} {ts:Ts} {h:H},wpC P lo A Q ts h->Gy P lo A Q ts h
 |.skip,_,_,_,w=>w
 |.ret,_,_,_,w=>w
 |.exit _,_,_,_,w=>w
 | .seq a b,Q,ts,h,w=>by
   have:=Mp a w
   rw[lP]at this
   exact Dh a (fun e ts h x=>by cases e<;>first|exact Mp b x|exact x) ts h this
 | .cond c a b,Q,ts,h,w=>by
   rcases P9 w with⟨e,w⟩|⟨e,w⟩
   ·exact⟨true,e,by simpa using Mp a w⟩
   ·exact⟨false,e,by simpa using Mp b w⟩
 |.block id c,Q,ts,h,w=>Dh c (fun e ts h x=>cN x) ts h (Mp c w)
 | .reg ops,Q,ts,h,w=>by
   obtain⟨e,e',w⟩:=w
   subst e e'
   exact Lu w
 | .BN ops ap,Q,ts,h,w=>by
   obtain⟨e,e',w⟩:=w
   subst e e'
   exact Ga (fun ts h x=>uT x) (Lu w)
 |.loop c,Q,ts,h,w=>w.h
 |.range f ps n Ed body x y,Q,ts,h,w=>w.h
 |.next x a b,Q,ts,h,w=>w.h
theorem wpC.to {P:Program}{lo:Nat}{A:Ay}{Q:Exit->Ts->H->Prop}{ts:Ts}{h:H}(w:wpC P lo A Q ts h):Gy P lo A Q ts h:=Mp A w


section
variable {P:Program}{fn lo nb:Nat}{q:Bool}{h:H}{fv:Value}{args as:List Value}{k:Value->H->Prop}
theorem Ar {R:Value->H->Prop}(en:h.next=nb) (hlo:lo<=nb) (hc:AW P fn h.next h as R) (hr:∀v h',R v h'->Quiet nb h h'->nb<=h'.next->k v h'):TP P fn lo q h fv args as k:=by
 obtain⟨v,h',r,a⟩:=hc
 subst en
 have hq:=a.quiet
 exact .mk (a.mono (by split<;>omega)) (hr v h' r hq hq.next)
theorem Dw {X:Value}(en:h.next=nb) (hlo:lo<=nb) (hc:AW P fn h.next h as (fun v _=>v=X)) (hr:∀h',Quiet nb h h'->nb<=h'.next->k X h'):TP P fn lo q h fv args as k:=
 Ar en hlo hc fun _ h' e hq hn=>by subst e;exact hr h' hq hn
theorem Fp {b:Bool}(en:h.next=nb) (hlo:lo<=nb) (hc:AW P fn h.next h as (fun v _=>v= .bool b)) (ht:b=true->∀h',Quiet nb h h'->nb<=h'.next->k (.bool true) h') (hf:b=false->∀h',Quiet nb h h'->nb<=h'.next->k (.bool false) h'):TP P fn lo q h fv args as k:=
 Dw en hlo hc fun h' hq hn=>by
  cases hb:b
  ·exact hf hb h' hq hn
  ·exact ht hb h' hq hn
theorem Ad {b:Bool}(ht:b=true->∀h',Quiet nb h h'->nb<=h'.next->k (.bool true) h') (hf:b=false->∀h',Quiet nb h h'->nb<=h'.next->k (.bool false) h'):∀v h',v= .bool b->Quiet nb h h'->nb<=h'.next->k v h':=by
 rintro _ h' rfl hq hn
 cases hb:b
 ·exact hf hb h' hq hn
 ·exact ht hb h' hq hn
theorem Ac {p:Prop}{X Y:Value}{inst:Decidable p}(ht:p->∀h',Quiet nb h h'->nb<=h'.next->k X h') (hf:¬p->∀h',Quiet nb h h'->nb<=h'.next->k Y h'):∀v h',v=(if p then X else Y)->Quiet nb h h'->nb<=h'.next->k v h':=by
 rintro _ h' rfl hq hn
 by_cases hp:p
 ·simp only[hp,if_true];exact ht hp h' hq hn
 ·simp only[hp,if_false];exact hf hp h' hq hn
theorem Ab {X:Value}(hr:∀h',Quiet nb h h'->nb<=h'.next->k X h'):∀v h',v=X->Quiet nb h h'->nb<=h'.next->k v h':=by
 rintro _ h' rfl hq hn
 exact hr h' hq hn
theorem Dx {R:Value->H->Prop}(hc:∃v h',R v h'/\CX P fv lo h args v h') (hr:∀v h',R v h'->Quiet lo h h'->k v h'):gH P fv lo false h args k:=by
 obtain⟨v,h',r,a⟩:=hc
 exact .mk a (hr v h' r a.quiet)
theorem GD {R:Value->H->Prop}(hc:AW P fn lo h as R) (hr:∀v h',R v h'->Quiet lo h h'->k v h'):TP P fn lo false h fv args as k:=by
 obtain⟨v,h',r,a⟩:=hc
 exact .mk a (hr v h' r a.quiet)
end
theorem xL {a i j:Nat}(e:Nat.beq i j=false):a+i≠a+j:=fun h=>by
 have:=Nat.add_left_cancel h
 subst this
 simp at e
theorem eO {a j:Nat}(e:Nat.beq 0 j=false):a≠a+j:=fun h=>by
 have:0=j:=by omega
 subst this
 simp at e
theorem sN {a j:Nat}(e:Nat.beq 0 j=false):a+j≠a:=fun h=>eO e h.symm
theorem xK {a b i n j:Nat}(h:a+n<=b) (e:Nat.ble (i+1) n=true):a+i≠b+j:=by
 have:=Nat.le_of_ble_eq_true e
 omega
theorem sM {a b n j:Nat}(h:a+n<=b) (e:Nat.ble 1 n=true):a≠b+j:=by
 have:=Nat.le_of_ble_eq_true e
 omega
theorem DT.val {P:Program}{lo Br:Nat}{ts:Ts}{h:H}{ao:B9}{k:Value->H->Prop}{v0 v:Value}(ha:C6 P lo Br ts h ao=some (v0,h)) (hv:v0=v) (hk:k v h):DT P lo Br ts h ao k:=by
 subst hv;exact .mk ha hk
theorem DT.pure {P:Program}{lo Br:Nat}{ts:Ts}{h:H}{k:Value->H->Prop}{o:Oper}(v:Value) (ha:Ib P ts o=some v) (hk:k v h):DT P lo Br ts h (.pure o) k:=
 .mk (v:=v) (h':=h) (by simp[C6,keep,ha]) hk
theorem Ix.nat {b:Option Addr}{n m:Nat}{k:Addr->Nat->Prop}{a:Addr}(hb:b=some a) (hm:m<n) (hk:k a m):Ix b n (m:Int) k:=.mk hb rfl hm hk
theorem Ix.Amp {b:Option Addr}{n m:Nat}{k:Addr->Nat->Prop}{a:Addr}(hb:0<n->b=some a) (hm:m<n) (hk:k a m):Ix b n (m:Int) k:=.mk (hb (by omega)) rfl hm hk
theorem Ix.int {b:Option Addr}{n:Nat}{z:Int}{k:Addr->Nat->Prop}{a:Addr}(hb:b=some a) (h0:0<=z) (hm:z<n) (hk:k a z.toNat):Ix b n z k:=.mk hb (by omega) (by omega) hk
theorem Ix.Amz {b:Option Addr}{n:Nat}{z:Int}{k:Addr->Nat->Prop}{a:Addr}(hb:0<n->b=some a) (h0:0<=z) (hm:z<n) (hk:k a z.toNat):Ix b n z k:=.mk (hb (by omega)) (by omega) (by omega) hk
theorem Ix.lit {b:Option Addr}{n m:Nat}{z:Int}{k:Addr->Nat->Prop}{a:Addr}(e:z.toNat=m) (hb:0<n->b=some a) (h0:0<=z) (hm:z<n) (hk:k a m):Ix b n z k:=.mk (hb (by omega)) (by omega) (by omega) hk
theorem Ix.pred {b:Option Addr}{n m:Nat}{k:Addr->Nat->Prop}{a:Addr}(hb:0<n->b=some a) (h0:1<=m) (hm:m<=n) (hk:k a (m - 1)):Ix b n ((m:Int) - 1) k:=.mk (hb (by omega)) (by omega) (by omega) hk
theorem Ix.succ {b:Option Addr}{n m:Nat}{k:Addr->Nat->Prop}{a:Addr}(hb:0<n->b=some a) (hm:m+1<n) (hk:k a (m+1)):Ix b n ((m:Int)+1) k:=.mk (hb (by omega)) rfl hm hk
theorem qR.lit {n m:Nat}{z:Int}{k:Nat->Prop}(e:z.toNat=m) (h0:0<=z) (hm:z<n) (hk:k m):qR n z k:=.mk (by omega) (by omega) hk
theorem qR.nat {n m:Nat}{k:Nat->Prop}(hm:m<n) (hk:k m):qR n (m:Int) k:=.mk rfl hm hk
theorem qR.int {n:Nat}{z:Int}{k:Nat->Prop}(h0:0<=z) (hm:z<n) (hk:k z.toNat):qR n z k:=.mk (by omega) (by omega) hk
end AE

/- Closing steps of a walk, each found by tactic. -/
namespace AE
open Go
theorem Ao {G:Prop}(g:G:=by(((try simp only[Bv,AY,Nat.add_assoc,Nat.reduceAdd]);exact rfl))):G:=g
theorem jW {G:Prop}(g:G:=by(first|exact Nat.add_lt_add_left (Nat.le_of_ble_eq_true rfl) _|omega)):G:=g
theorem Ab5 {G:Prop}(g:G:=by(first|exact xL rfl|exact eO rfl|exact sN rfl|exact xK (by assumption) rfl|exact sM (by assumption) rfl|omega)):G:=g
theorem AQ {G:Prop}(g:G:=by(first|exact Nat.le_refl _|exact Nat.le_add_right _ _|omega)):G:=g
theorem Aha {G:Prop}(g:G:=by(((try simp only[Nat.add_zero,Nat.add_assoc,Nat.reduceAdd]);exact rfl))):G:=g
theorem Ag9 {G:Prop}(g:G:=by(((try dsimp only[BI])<;>exact rfl))):G:=g
theorem wC {G:Prop}(g:G:=by(((conv=>lhs;simp only[Int.reduceToNat])<;>exact rfl))):G:=g
theorem Ab4 {G:Prop}(g:G:=by(first|exact Lm (by omega)|exact wrap_u64 (by omega)|exact wrap_u32 (by omega))):G:=g
theorem Aa {G:Prop}(g:G:=by(((try dsimp only[BI]);(repeat(first|assumption|exact KI rfl|((with_reducible apply Oq);focus exact Ab5)|with_reducible apply HB|((with_reducible apply Nt);(focus assumption);focus exact jW)|exact KI (by omega)|((with_reducible apply R7);(focus assumption);focus exact jW)));(first|done|fail)))):G:=g
theorem Zq {G:Prop}(g:G:=by(((repeat(first|assumption|(apply Ints.at<;>first|assumption|omega)|(apply JP.at<;>first|assumption|omega)|(apply QV.at<;>first|assumption|omega)|((with_reducible apply KG);focus(dsimp only[BI];omega))|with_reducible apply Jl|((with_reducible apply Hq);(focus assumption);focus(dsimp only[BI];omega))|((with_reducible apply IY);(focus assumption);focus(dsimp only[BI];omega))));(first|done|fail)))):G:=g
theorem Nj {G:Prop}(g:G:=by(((conv=>lhs;whnf)<;>exact rfl))):G:=g
theorem Jk {G:Prop}(g:G:=by(((repeat((conv=>arg 1;whnf);first|exact Is.nil|(apply Is.cons;focus exact Nj)|exact Is.rfl));(first|done|fail)))):G:=g
theorem uO {G:Prop}(g:G:=by(((repeat(first|exact Apart.nil|(apply Apart.cons;(focus exact rfl);(focus exact rfl);(focus((try dsimp only[BI]);omega)))));(first|done|fail)))):G:=g
theorem Xb {G:Prop}(g:G:=by(first|omega|exact uO)):G:=g
theorem Ez {G:Prop}(g:G:=by(first|(apply Di;(focus exact Aa);(focus exact rfl);(first|done|fail))|(apply CP;(focus exact Aa);(focus exact rfl);(first|done|fail))|exact Zq)):G:=g
theorem Ahb {G:Prop}(g:G:=by((simp only[List.length_cons,List.length_nil,Nat.reduceAdd];exact rfl))):G:=g
theorem Aq {G:Prop}(g:G:=by(((repeat(first|exact Same.refl _ _|assumption|(apply Same.mono;(focus assumption);(focus omega))|((with_reducible apply Same.put);rotate_left;focus omega)|with_reducible apply Same.bump|((with_reducible apply Same.quiet);rotate_left;(focus assumption);(focus omega))));(first|done|fail)))):G:=g
theorem AO {G:Prop}(g:G:=by(((repeat(first|exact Quiet.refl _ _|assumption|((with_reducible apply Quiet.put');rotate_left;(focus omega);(focus(simp only[Bv,AY];omega)))|with_reducible apply Quiet.wD|((with_reducible apply Quiet.trans');rotate_left;(focus assumption);(focus omega))));(first|done|fail)))):G:=g
theorem Ah {G:Prop}(g:G:=by(first|omega|((try simp only[Bv,AY]at*);omega))):G:=g
theorem jV {G:Prop}(g:G:=by(first|((with_reducible apply sH);focus exact Nj)|((with_reducible apply eG);(focus exact rfl);(focus exact rfl);(focus exact rfl);(focus exact Aa);(focus exact rfl);(focus exact Jk))|((with_reducible apply sJ);(focus exact rfl);(focus exact rfl);(focus exact Aa);(focus exact rfl);(focus exact Nj)))):G:=g
theorem Ak {G G':Prop}(g:G') (t:G'->G:=by(first|((with_reducible apply Start.mk);(focus exact Ao);(focus exact Ahb))|((with_reducible apply New.mk);(focus exact Aha))|((with_reducible apply Need.mk);(focus exact Xb))|((with_reducible apply ArQ.ok);(focus exact Xb))|((with_reducible apply vp.nn);(focus exact Xb))|((with_reducible apply Ajf.nn);(focus exact Xb))|((with_reducible apply Ei.mk);(focus exact Ez);(focus exact Nj))|((with_reducible apply Mi.mk);(focus exact Ez);(focus exact Jk))|((with_reducible apply Xq.mk);(focus exact Ag9);(focus exact AQ);(focus exact Aa);(focus exact rfl);(focus exact rfl);(focus exact rfl);(focus exact Jk))|((with_reducible apply Ix.nat);(focus exact rfl);(focus omega))|((with_reducible apply Ix.Amp);(focus assumption);(focus omega))|((with_reducible apply Ix.succ);(focus first|assumption|exact fun _=>rfl);(focus omega))|((with_reducible apply Ix.pred);(focus first|assumption|exact fun _=>rfl);(focus omega);(focus omega))|((with_reducible apply Ix.lit);(focus exact wC);(focus first|assumption|exact fun _=>rfl);(focus omega);(focus omega))|((with_reducible apply Ix.int);(focus exact rfl);(focus omega);(focus omega))|((with_reducible apply Ix.Amz);(focus assumption);(focus omega);(focus omega))|((with_reducible apply qR.nat);(focus omega))|((with_reducible apply qR.lit);(focus exact wC);(focus omega);(focus omega))|((with_reducible apply qR.int);(focus omega);(focus omega))|((with_reducible apply Wrap.mk);(focus exact Ab4))|((with_reducible apply DT.val);(focus exact rfl);(focus exact Nj))|apply jU|apply cg|apply ck)):G:=t g
theorem Ae {p:Prop}{nb:Nat}{h:H}{k:Value->H->Prop}{inst:Decidable p}(ht:∀h',Quiet nb h h'->nb<=h'.next->p->k (.bool true) h') (hf:∀h',Quiet nb h h'->nb<=h'.next->¬p->k (.bool false) h'):∀v h',v= .bool (decide p)->Quiet nb h h'->nb<=h'.next->k v h':=by
 rintro _ h' rfl q n
 by_cases hp:p
 ·rw[decide_eq_true hp];exact ht h' q n hp
 ·rw[decide_eq_false hp];exact hf h' q n hp
theorem Au {G G':Prop}(g:G') (t:G'->G:=by(first|(apply Anq;(focus first|exact .inl rfl|exact .inr rfl);focus exact jV)|(apply Abi;(focus first|exact .inl rfl|exact .inr rfl);(focus exact jV);(focus exact jV))|(apply Anp;(focus first|exact .inl rfl|exact .inr rfl);(focus exact jV);(focus exact jV);(focus exact jV))|(apply Anr;(focus first|exact .inl rfl|exact .inr rfl)))):G:=t g
end AE

/- From what a law's function comes to over the abstract heap, to what it comes to in a world: arguments that came in. -/
namespace AE
open Go Go.RowKit Go.ChangeShapes Go.WideShapes Go.ChangeAt

theorem AW.law {P:Program}{f:FuncId}{h:H}{args:List Value}{I:AZ}{W:World}(aw:AW P f h.next h args (fun v _=>v= .bool true)) (k:Rel I h W) (hb:I.base=W.heap.size) (ia:C5 I args):
 Calls P f ⟨AX I args⟩ W fun e w'=>e= .returned (.bool true)/\Below W.heap.size W w':=by
 obtain⟨v,h',rfl,a⟩:=aw
 refine(a.calls I W k ia).mono ?_
 rintro e w' ⟨J,W1, -,rfl⟩
 refine⟨by simp[ren],⟨W1.ext.os,W1.ext.tape,W1.ext.output,W1.ext.size,fun b hlt=>W1.ext.block b hlt fun r s d _ hbase=>by omega⟩⟩

def nR (W:World):AZ:=⟨fun _ _=>none,fun _ _=>0,W.heap.size⟩
theorem Ajr (W:World) (ht:Qe W.heap.size W):Rel (nR W) H.empty W:=
 ⟨fun r row h=>by simp[H.empty]at h,fun r ⟨s,p,e⟩=>by simp[nR]at e,fun r s b d e=>by simp[nR]at e,Nat.le_refl _,ht,fun r r' s s' b d d' e=>by simp[nR]at e,fun _ _=>rfl⟩

def AZ.lay (I:AZ) (r b d:Nat):AZ:=⟨fun r' s'=>if r'=r/\s'=none then some (b,d)else I.at_ r' s',I.cap,I.base⟩
theorem AZ.bq (I:AZ) (r b d:Nat):(I.lay r b d).at_ r none=some (b,d):=by simp[AZ.lay]
end AE

/- Slices that are made, grown within their capacity, copied; structs compared. -/
namespace AE
open Go
section
variable {P:Program}{lo Br:Nat}{ts:Ts}{h h':H}{k:Value->H->Prop}
theorem Hr {z:List Value}{bytes a b:Nat}{e:TypeId}{l c:BH}{k1 k2:IntKind}(hl:ev ts l= .int k1 (a:Int)) (hc:ev ts c= .int k2 (b:Int)) (hle:a<=b) (hsm:(b+1) * (bytes+1)<=1099511627776)
 (hr:k (.slice (some ⟨Br,0,none⟩) a b) (h.put (Br) (.cells (HX z b) e))):DT P lo Br ts h (.FP z bytes e l c) k:=
 DT.mk (by
  have h1:C9 (ev ts l)=some a:=by rw[hl];simp[C9]
  have h2:C9 (ev ts c)=some b:=by rw[hc];simp[C9]
  simp only[C6,h1,h2,JY]
  rw[if_pos ⟨hle,hsm⟩]) hr
theorem xA {sz n c l e:Nat}{x:BH}{lo' hi':BH}{a:Addr}{k1 k2:IntKind}(hx:ev ts x= .slice (some a) n c) (hl:ev ts lo'= .int k1 (l:Int)) (hh:ev ts hi'= .int k2 (e:Int)) (hs:a.spot=none) (h1:l<=e) (h2:e<=c) (h3:l<c) (hf:c<far)
 (hr:k (.slice (some (BI a (l*sz))) (e - l) (c - l)) h):DT P lo Br ts h (.HL sz x (some lo') (some hi') none) k:=
 DT.mk (by
  have n1:C9 (ev ts lo')=some l:=by rw[hl];simp[C9]
  have n2:C9 (ev ts hi')=some e:=by rw[hh];simp[C9]
  have hf2:c - l<far:=by omega
  have hne:¬c=l:=by omega
  simp[C6,HL,hx,hs,Ee,KU,CM,n1,n2,h1,h2,enc1,hf2,Dy,hne,keep,Nat.not_le.2 hf]) hr
def intCells (f:Nat->Int) (n:Nat):List Value:=(List.range n).map fun i=>Value.int .i64 (f i)
theorem Wy (f:Nat->Int) (n i:Nat) (hi:i<n):(intCells f n)[i]? =some (.int .i64 (f i)):=by simp[intCells,hi]
theorem Ints.row {r:Nat}{e:TypeId}{f:Nat->Int}{n:Nat}(hget:h.get r=some (.cells (intCells f n) e)):Ints h ⟨r,0,none⟩ n f:=fun i hi=>
 Di (c:=intCells f n) hget (by show(intCells f n)[0+i]? =_;rw[Nat.zero_add];exact Wy f n i hi)
theorem rU {row:BQ}{off n:Nat}{s:Option Nat}{l:List Value}(hl:Cr off n row s=some l):l.length=n:=by
 have hcut:∀{c:List Value},cut c off n=some l->l.length=n:=fun{c} h=>by
  unfold cut at h
  split at h
  ·simp at h;subst h;simp;omega
  ·simp at h
 cases row<;>cases s<;>simp only[Cr]at hl<;>first|exact hcut hl|(split at hl<;>first|exact hcut hl|simp at hl)|simp at hl
theorem Zb {c l:List Value}{off n:Nat}{v:Value}(h1:cut c off n=some l) (h2:cut c (off+n) 1=some [v]):cut c off (n+1)=some (l++[v]):=by
 unfold cut at*
 split at h1
 ·split at h2
  ·rename_i a b
   simp only[Option.some.injEq]at h1 h2
   rw[if_pos (by omega),<-h1,<-h2,List.take_add]
   simp[List.drop_drop]
  ·simp at h2
 ·simp at h1
theorem Wn {row:BQ}{off n:Nat}{s:Option Nat}{l:List Value}{v:Value}(h1:Cr off n row s=some l) (h2:Cr (off+n) 1 row s=some [v]):Cr off (n+1) row s=some (l++[v]):=by
 cases row<;>cases s<;>simp only[Cr]at h1 h2⊢<;>first
  |exact Zb h1 h2
  | (split at h1
     ·split at h2
      ·rename_i a b
       rw[if_pos ⟨a.1,a.2.1,by omega⟩]
       exact Zb h1 h2
      ·simp at h2
     ·simp at h1)
  |simp at h1
theorem Ints.all {a:Addr}{f:Nat->Int}{n:Nat}(hi:Ints h a n f) (h0:0<n):∀k,0<k->k<=n->h.Bu a k=some (intCells f k)
 |0,hk,_=>by omega
 | 1,_,hn=>by
   have:=hi 0 h0
   simpa[intCells,BI]using this
 | k +2,_,hn=>by
   have ih:=hi.all h0 (k+1) (by omega) (by omega)
   have hs:=hi (k+1) (by omega)
   unfold H.Bu at*
   cases hrow:h.get a.block with
   |none=>rw[hrow]at ih;simp at ih
   | some row=>
     rw[hrow]at ih
     simp only[BI,hrow,Option.bind_some]at ih hs⊢
     rw[Wn ih hs]
     simp[intCells,List.range_succ]
end
theorem RX {xs ys:List Value}{off:Nat}(h:off+ys.length<=xs.length):(splice xs off ys).length=xs.length:=by
 unfold splice;simp;omega
end AE

/- Comparisons of structs of integers. -/
namespace AE
open Go

theorem Dn {P:Program}{t:TypeId}{d:TypeDesc}(h:P.underlying t=some d):Bl P (underlying t)=some d:=by
 unfold underlying
 simp only[BB]
 show((some P).bind _)=_
 simp only[Option.bind_some,h]
 rfl
theorem o6 {P:Program}{t:TypeId}{k:IntKind}(ht:P.underlying t=some (.int k)) (d:Nat) (a b:Int):Bl P (Op.equalIn (d+1) t (.int k a) (.int k b))=some (a==b):=by
 unfold Op.equalIn
 simp only[BB,Dn ht,Option.bind_some,if_true]
 rfl
theorem HY (P:Program):Bl P program=some P:=rfl
theorem EF {α:Type}(P:Program) (x:α):Bl P (pure x:Sem α)=some x:=rfl
theorem uo {P:Program}{t u:TypeId}{f0 f1:Field}{k:IntKind}(ht:P.underlying t=some (.struct #[f0,f1])) (hn0:f0.name≠ "_") (hn1:f1.name≠ "_") (hu0:f0.type=u) (hu1:f1.type=u) (hu:P.underlying u=some (.int k)) (d:Nat) (a b x y:Int)
 (hs:P.stoodInHeld t=false) (p0:∀v w:Value,Bl P (Go.part u #[v,w] f0.offset)=some v) (p1:∀v w:Value,Bl P (Go.part u #[v,w] f1.offset)=some w):
 Bl P (Op.equalIn (d+2) t (.agg #[.int k a,.int k b]) (.agg #[.int k x,.int k y]))=some (a==x&&b==y):=by
 unfold Op.equalIn
 simp only[BB,Dn ht,Option.bind_some,HY,hs]
 have e:(#[f0,f1]:Array Field)=[f0,f1].toArray:=rfl
 rw[e]
 simp only[List.forIn_toArray,List.forIn_cons,List.forIn_nil,Bool.false_eq_true,if_false,BB,hn0,hn1,ne_eq,not_false_eq_true,if_true,hu0,hu1,p0,p1,Option.bind_some,o6 hu]
 rcases Bool.eq_false_or_eq_true (a==x)with ha|ha<;>rcases Bool.eq_false_or_eq_true (b==y)with hb|hb<;>
  simp only[ha,hb,EF,BB,Bool.not_true,Bool.not_false,Bool.false_eq_true,if_true,if_false,p1,Option.bind_some,o6 hu,Bool.and_true,Bool.and_false,Bool.true_and,Bool.false_and]
theorem DU {P:Program}{ts:Ts}{o:Oper}{t:TypeId}{x y:Operand}{c:TypeId}(ho:o.op= .binOp .eql t x y c) {A B:Array Value}(hx:Ud ts x= .agg A) (hy:Ud ts y= .agg B) (fa:flat (.agg A)=true) (fb:flat (.agg B)=true)
 (hg:P.eqGuardType P.depth t=false) {b:Bool} (he:Bl P (Op.equalIn Op.maxDepth t (.agg A) (.agg B))=some b):Ib P ts o=some (.bool b):=by
 have ops:o.op.operands.toList=[x,y]:=by rw[ho];rfl
 unfold Ib
 rw[ops]
 simp only[List.all_cons,List.all_nil,hx,hy,fa,fb,Bool.and_true,if_true]
 unfold execOp
 rw[ho]
 simp only[hx,hy,BB]
 have g:Bl P (eqGuard .eql t x y (.agg A) (.agg B))=some ():=by
  unfold eqGuard
  simp only[BB,HY,Option.bind_some,hg,Bool.not_true,Bool.not_false,Bool.false_eq_true,if_false,if_true,EF]
 have e:Bl P (binOp .eql t (.agg A) (.agg B))=some (.bool b):=by
  unfold binOp
  simp only[Op.equal,BB,he,Option.bind_some]
  rfl
 rw[g]
 simp only[Option.bind_some]
 rw[e]
 rfl
end AE

/- The greatest, and the least, of three numbers. -/
namespace AE
open Go
theorem ZT {P:Program}{ts:Ts}{o:Oper}{x y z:Operand}{ty:Array TypeId}{a b c:Int}(ho:o.op= .call ⟨.builtin .max, #[x,y,z],ty⟩) (hx:Ud ts x= .int .i64 a) (hy:Ud ts y= .int .i64 b) (hz:Ud ts z= .int .i64 c):Ib P ts o=some (.int .i64 (max (max a b) c)):=by
 have ops:o.op.operands.toList=[x,y,z]:=by rw[ho];rfl
 unfold Ib
 rw[ops]
 simp only[List.all_cons,List.all_nil,hx,hy,hz,flat,Bool.and_true,if_true]
 have e1:∀p q:Int,(if q>p then q else p)=max p q:=fun p q=>by split<;>omega
 simp[execOp,ho,hx,hy,hz,resolve,invoke,builtin,Builtin.max_,Builtin.max2,EF,e1,Rc,flat]
theorem Rx {P:Program}{ts:Ts}{o:Oper}{x y z:Operand}{ty:Array TypeId}{a b c:Int}(ho:o.op= .call ⟨.builtin .min, #[x,y,z],ty⟩) (hx:Ud ts x= .int .i64 a) (hy:Ud ts y= .int .i64 b) (hz:Ud ts z= .int .i64 c):Ib P ts o=some (.int .i64 (min (min a b) c)):=by
 have ops:o.op.operands.toList=[x,y,z]:=by rw[ho];rfl
 unfold Ib
 rw[ops]
 simp only[List.all_cons,List.all_nil,hx,hy,hz,flat,Bool.and_true,if_true]
 have e1:∀p q:Int,(if q<p then q else p)=min p q:=fun p q=>by split<;>omega
 simp[execOp,ho,hx,hy,hz,resolve,invoke,builtin,Builtin.min_,Builtin.min2,EF,e1,Rc,flat]
end AE

/- Comparisons of structs and arrays of numbers and truth values, of any shape. -/
set_option linter.unusedVariables false
namespace AE
open Go

variable {P:Program}

theorem T6 {t:TypeId}{b:Bool}(h:Dc P t=some b):Bl P (isAgg t)=some b:=by
 unfold Dc at h
 unfold isAgg
 simp only[BB]
 cases hu:P.underlying t with
 |none=>rw[hu]at h;simp at h
 | some d=>
   rw[Dn hu,Option.bind_some]
   rw[hu]at h
   cases d<;>simp at h<;>subst h<;>rfl
theorem LF {t:TypeId}{n:Nat}(h:sizeT P t=some n):Bl P (Go.sizeOf t)=some n:=by
 unfold sizeT at h
 simp only[Option.map_eq_some_iff]at h
 obtain⟨i,hi,rfl⟩:=h
 unfold Go.sizeOf typeInfo
 simp only[BB]
 show(((some P).bind _).bind _)=_
 simp only[Option.bind_some,hi]
 rfl

def Kr (agg:Bool) (cs:List Value):Value:=if agg then .agg ⟨cs⟩else(cs[0]?).getD undef

def PartOf (P:Program) (e:TypeId) (agg:Bool) (cs:List Value) (off:Nat) (x:List Value):Prop:=
 Dc P e=some agg/\if agg then(∃s,sizeT P e=some s/\cut cs off s=some x)else∃v,cs[off]? =some v/\x=[v]

theorem PartOf.run {e:TypeId}{agg:Bool}{cs x:List Value}{off:Nat}(h:PartOf P e agg cs off x):Bl P (part e ⟨cs⟩ off)=some (Kr agg x):=by
 obtain⟨h1,h2⟩:=h
 unfold part
 simp only[BB,T6 h1,Option.bind_some]
 cases agg
 ·simp only[Bool.false_eq_true,if_false]at h2⊢
  obtain⟨v,hv,rfl⟩:=h2
  have:(⟨cs⟩:Array Value)[off]? =some v:=by simpa using hv
  rw[this]
  rfl
 ·simp only[if_true]at h2⊢
  obtain⟨s,hs,hc⟩:=h2
  obtain⟨hl,rfl⟩:=HS hc
  simp only[BB,LF hs,Option.bind_some,Kr,if_true]
  have:(⟨cs⟩:Array Value).extract off (off+s)=⟨(cs.drop off).take s⟩:=by
   apply Array.ext'
   simp[List.take_drop]
  rw[this]
  rfl

def cW (f:Nat->Bool) (n:Nat):Bool:=(List.range n).all f

mutual
inductive QF (P:Program):Nat->TypeId->Bool->List Value->List Value->Bool->Prop
 |int {n:Nat} {t:TypeId} {k:IntKind} {a b:Int} (ht:P.underlying t=some (.int k)):QF P (n+1) t false [.int k a] [.int k b] (a==b)
 |bool {n:Nat} {t:TypeId} {a b:Bool} (ht:P.underlying t=some .bool):QF P (n+1) t false [.bool a] [.bool b] (a==b)
 |struct {n:Nat} {t:TypeId} {fs:Array Field} {xs ys:List Value} {b:Bool} (ht:P.underlying t=some (.struct fs)) (hs:P.stoodInHeld t=false) (h:Pj P n fs.toList xs ys b):QF P (n+1) t true xs ys b
 |arr {n:Nat} {t e:TypeId} {m s:Nat} {agg:Bool} {xs ys:List Value} {x y:Nat->List Value} {f:Nat->Bool} (ht:P.underlying t=some (.array m e)) (hs:sizeT P e=some s) (hx:∀i,i<m->PartOf P e agg xs (i*s) (x i)) (hy:∀i,i<m->PartOf P e agg ys (i*s) (y i))
  (h:∀i,i<m->QF P n e agg (x i) (y i) (f i)):QF P (n+1) t true xs ys (cW f m)
inductive Pj (P:Program):Nat->List Field->List Value->List Value->Bool->Prop
 |nil {n:Nat} {xs ys:List Value}:Pj P n [] xs ys true
 |cons {n:Nat} {f:Field} {fs:List Field} {agg:Bool} {xs ys x y:List Value} {b c:Bool} (hn:f.name≠ "_") (hx:PartOf P f.type agg xs f.offset x) (hy:PartOf P f.type agg ys f.offset y) (h:QF P n f.type agg x y b) (r:Pj P n fs xs ys c):Pj P n (f::fs) xs ys (b&&c)
end

theorem QF.run:∀(n:Nat) {t:TypeId}{agg:Bool}{xs ys:List Value}{b:Bool},QF P n t agg xs ys b->∀d,n<=d->Bl P (Op.equalIn d t (Kr agg xs) (Kr agg ys))=some b:=by
 intro n
 induction n with
 |zero=>intro t agg xs ys b h;cases h
 | succ n ih=>
   intro t agg xs ys b h d hd
   obtain⟨d,rfl⟩:∃d',d=d'+1:=⟨d - 1,by omega⟩
   cases h with
   | int ht=>
     simp only[Kr,Bool.false_eq_true,if_false,List.getElem?_cons_zero,Option.getD_some]
     exact o6 ht d _ _
   | bool ht=>
     simp only[Kr,Bool.false_eq_true,if_false,List.getElem?_cons_zero,Option.getD_some]
     unfold Op.equalIn
     simp only[BB,Dn ht,Option.bind_some]
     rfl
   | struct ht hs h=>
     rename_i fs
     simp only[Kr,if_true]
     unfold Op.equalIn
     simp only[BB,Dn ht,Option.bind_some,HY,hs,Bool.false_eq_true,if_false]
     have e:fs=fs.toList.toArray:=rfl
     rw[e]
     simp only[List.forIn_toArray]
     generalize fs.toList=l at h
     have key:∀(l:List Field) (b:Bool),Pj P n l xs ys b->Bl P (forIn l ((none,()):Option Bool × Unit) fun f _=>
      if f.name≠ "_" then do
       let x<-part f.type ⟨xs⟩ f.offset
       let y<-part f.type ⟨ys⟩ f.offset
       let q<-Op.equalIn d f.type x y
       if(!q)=true then pure (ForInStep.done (some false,()))else pure (ForInStep.yield (none,()))
      else pure (ForInStep.yield (none,())))=some (if b then none else some false,()):=by
      intro l
      induction l with
      |nil=>intro b h;cases h;rfl
      | cons f l ihl=>
        intro b h
        cases h with
        | cons hn hx hy h r=>
          rename_i agg x y b c
          have he:=ih h d (by omega)
          simp only[List.forIn_cons,BB,hn,ne_eq,not_false_eq_true,if_true,hx.run,hy.run,he,Option.bind_some]
          cases b
          ·simp[EF]
          ·simp only[Bool.not_true,Bool.false_eq_true,if_false,EF,Option.bind_some,Bool.true_and]
           exact ihl c r
     rw[key l b h]
     cases b<;>rfl
   | arr ht hs hx hy h=>
     rename_i e m s agg x y f
     simp only[Kr,if_true]
     unfold Op.equalIn
     simp only[BB,Dn ht,Option.bind_some,LF hs,Std.Legacy.Range.forIn_eq_forIn_range']
     have key:∀(k i:Nat),i+k=m->Bl P (forIn (List.range' i k) ((none,()):Option Bool × Unit) fun i _=>do
      let x<-part e ⟨xs⟩ (i*s)
      let y<-part e ⟨ys⟩ (i*s)
      let q<-Op.equalIn d e x y
      if(!q)=true then pure (ForInStep.done (some false,()))else pure (ForInStep.yield (none,())))=some (if(List.range' i k).all f then none else some false,()):=by
      intro k
      induction k with
      |zero=>intro i _;rfl
      | succ k ihk=>
        intro i hi
        have he:=ih (h i (by omega)) d (by omega)
        simp only[List.range'_succ,List.forIn_cons,BB,(hx i (by omega)).run,(hy i (by omega)).run,he,Option.bind_some,List.all_cons]
        cases f i
        ·simp[EF]
        ·simp only[Bool.not_true,Bool.false_eq_true,if_false,EF,Option.bind_some,Bool.true_and]
         exact ihk (i+1) (by omega)
     have hk:=key m 0 (by omega)
     simp only[Std.Legacy.Range.size,Nat.sub_zero,Nat.add_sub_cancel,Nat.div_one]
     rw[hk]
     unfold cW
     rw[List.range_eq_range']
     cases(List.range' 0 m).all f<;>rfl

end AE

/- Long rows of cells, part by part: arrays of arrays. -/
set_option linter.unusedVariables false
namespace AE
open Go Go.RowKit

def rowsOf (g:Nat->List Value):Nat->List Value
 |0=>[]
 |n+1=>rowsOf g n++g n

theorem E5 {g:Nat->List Value}{w:Nat}(hg:∀i,(g i).length=w):∀n,(rowsOf g n).length=n*w
 |0=>by simp[rowsOf]
 |n+1=>by simp[rowsOf,E5 hg n,hg,Nat.succ_mul]

theorem OZ {α:Type}{p m s:List α}{a n:Nat}(hp:p.length=a) (hm:m.length=n):cut (p++m++s) a n=some m:=by
 subst hp;subst hm
 simp[cut]
theorem RY {α:Type}{p m m' s:List α}{a:Nat}(hp:p.length=a) (hm:m'.length=m.length):splice (p++m++s) a m'=p++m'++s:=by
 subst hp
 simp only[splice,hm]
 congr 1
 ·congr 1
  simp[List.take_append_of_le_length]
 ·rw[List.drop_append_of_le_length (by simp)]
  rw[List.drop_eq_nil_of_le (by simp)]
  rfl

theorem Ol {g:Nat->List Value}{w:Nat}(hg:∀i,(g i).length=w):∀{n i:Nat},i<n->∃p s,p.length=i*w/\rowsOf g n=p++g i++s/\∀g':Nat->List Value,(∀j,j≠i->g' j=g j)->rowsOf g' n=p++g' i++s:=by
 intro n
 induction n with
 |zero=>intro i h;omega
 | succ n ih=>
   intro i h
   by_cases hin:i=n
   ·subst hin
    refine⟨rowsOf g i,[],E5 hg i,by simp[rowsOf],fun g' hg'=>?_⟩
    have:∀k,k<=i->rowsOf g' k=rowsOf g k:=by
     intro k
     induction k with
     |zero=>intro _;rfl
     |succ k ihk=>intro hk;simp only[rowsOf];rw[ihk (by omega),hg' k (by omega)]
    simp[rowsOf,this i (Nat.le_refl _)]
   ·obtain⟨p,s,hp,h1,h2⟩:=ih (i:=i) (by omega)
    refine⟨p,s++g n,hp,by simp[rowsOf,h1],fun g' hg'=>?_⟩
    simp[rowsOf,h2 g' hg',hg' n (fun e=>hin e.symm)]

theorem EN {g:Nat->List Value}{w:Nat}(hg:∀i,(g i).length=w) {n i a:Nat}(hi:i<n) (pre post:List Value) (ha:a=pre.length+i*w):cut (pre++rowsOf g n++post) a w=some (g i):=by
 obtain⟨p,s,hp,h1, -⟩:=Ol hg hi
 rw[h1,show pre++(p++g i++s)++post=(pre++p)++g i++(s++post) by simp]
 exact OZ (by simp[hp,ha]) (hg i)

def VH (g:Nat->List Value) (i:Nat) (v:List Value):Nat->List Value:=fun j=>if j=i then v else g j

theorem JS {g:Nat->List Value}{w:Nat}(hg:∀i,(g i).length=w) {n i a:Nat}(hi:i<n) (pre post v:List Value) (hv:v.length=w) (ha:a=pre.length+i*w):
 splice (pre++rowsOf g n++post) a v=pre++rowsOf (VH g i v) n++post:=by
 obtain⟨p,s,hp,h1,h2⟩:=Ol hg hi
 rw[h1,h2 (VH g i v) (fun j hj=>by simp[VH,hj]),show pre++(p++g i++s)++post=(pre++p)++g i++(s++post) by simp,RY (by simp[hp,ha]) (by rw[hv,hg])]
 simp[VH]

theorem MJ {α:Type}{l m x:List α}{a n b k:Nat}(h:cut l a n=some m) (h':cut m b k=some x):cut l (a+b) k=some x:=by
 obtain⟨h1,rfl⟩:=HS h
 obtain⟨h2,rfl⟩:=HS h'
 simp only[List.length_take,List.length_drop]at h2
 have:a+b+k<=l.length:=by omega
 simp only[cut,this,if_true,Option.some.injEq]
 rw[List.drop_take,List.take_take,List.drop_drop,Nat.min_eq_left (by omega)]

theorem TV {α:Type}{l m v:List α}{a n b:Nat}(h:cut l a n=some m) (hb:b+v.length<=n):splice l (a+b) v=splice l a (splice m b v):=by
 obtain⟨h1,rfl⟩:=HS h
 have hl:(splice ((l.drop a).take n) b v).length=n:=by simp[splice];omega
 simp only[splice]at hl⊢
 have e1:l.take (a+b)=l.take a++((l.drop a).take n).take b:=by
  rw[List.take_take,Nat.min_eq_left (by omega),List.take_add]
 have e2:l.drop (a+b+v.length)=((l.drop a).take n).drop (b+v.length)++l.drop (a+n):=by
  have:l.drop (a+b+v.length)=(l.drop a).drop (b+v.length):=by rw[List.drop_drop];congr 1;omega
  rw[this]
  conv=>lhs;rw[<-List.take_append_drop n (l.drop a)]
  rw[List.drop_append_of_le_length (by simp;omega),List.drop_drop]
 rw[e1,e2,hl]
 simp

end AE

/- Slices that grow by appends. -/
set_option linter.unusedVariables false
namespace AE
open Go

structure Grown (b N:Nat) (h:H) (e:TypeId) (sz n:Nat) (cs:List Value) (v:Option Addr):Prop where
 len:cs.length=n*sz
 is:(n=0/\v=none)\/∃r g lens valid,v=some ⟨r,0,some g⟩/\b<=r/\r<N/\h.get r=some (.grow cs e sz lens valid)/\valid<=g/\g+1=lens.length/\GN lens g=cs.length/\0<n

theorem Grown.nil {b N:Nat}{h:H}{e:TypeId}{sz:Nat}:Grown b N h e sz 0 [] none:=⟨by simp,.inl ⟨rfl,rfl⟩⟩
theorem Grown.frame {b N N':Nat}{h h':H}{e:TypeId}{sz n:Nat}{cs:List Value}{v:Option Addr}(G:Grown b N h e sz n cs v) (hN:N<=N') (hs:∀r,b<=r->r<N->h'.get r=h.get r):Grown b N' h' e sz n cs v:=by
 refine⟨G.len,?_⟩
 rcases G.is with⟨h0,hv⟩|⟨r,g,lens,valid,hv,h1,h2,h3,h4⟩
 ·exact .inl ⟨h0,hv⟩
 ·exact .inr ⟨r,g,lens,valid,hv,h1,by omega,by rw[hs r h1 h2];exact h3,h4⟩
theorem Grown.lower {b b' N:Nat}{h:H}{e:TypeId}{sz n:Nat}{cs:List Value}{v:Option Addr}(G:Grown b N h e sz n cs v) (hb:b'<=b):Grown b' N h e sz n cs v:=by
 refine⟨G.len,?_⟩
 rcases G.is with⟨h0,hv⟩|⟨r,g,lens,valid,hv,h1,h2⟩
 ·exact .inl ⟨h0,hv⟩
 ·exact .inr ⟨r,g,lens,valid,hv,by omega,h2⟩
theorem _root_.Al {G:Prop}(g:G:=by omega):G:=g
theorem Aw {α:Type}{a b:Option α}(f:∀y,b=y->a=y):a=b:=f _ rfl
theorem Ep {α:Type}{a b:Option α}(g:a=b:=by exact Aw fun y hy=>Aa):a=b:=g
theorem PO (l:Nat) (lens:List Nat):GN (l::lens) lens.length=l:=by simp[GN]

def Cells (h:H) (sz m:Nat) (x:Value) (nc:List Value):Prop:=FK x=some m/\(0<m->Dv h sz m x=some nc)/\nc.length=m*sz/\nc.all Value.oneCell'=true
theorem Cells.one {h:H}{sz c:Nat}{a:Addr}{nc:List Value}(ha:h.Bu a (1*sz)=some nc) (hc:c<far) (hl:nc.length=sz) (ho:nc.all Value.oneCell'=true):Cells h sz 1 (.slice (some a) 1 c) nc:=
 ⟨rfl,fun _=>by simp only[Dv];rw[if_neg (by omega)];exact ha,by simpa using hl,ho⟩

section
variable {P:Program}{lo Br:Nat}{ts:Ts}{h h':H}{k:Value->H->Prop}
theorem Grown.new {b N:Nat}{e:TypeId}{sz n:Nat}{nc:List Value}(hb:b<=Br) (hN:Br<N) (hl:nc.length=n*sz) (h0:0<n):Grown b N (h.put Br (.grow nc e sz [nc.length] 0)) e sz n nc (some ⟨Br,0,some 0⟩):=
 ⟨hl,.inr ⟨Br,0,[nc.length],0,rfl,hb,hN,by simp[H.put],by omega,rfl,by simp[GN],h0⟩⟩

theorem V9 {e:TypeId}{sz bytes n m b N:Nat}{s x:BH}{cs nc:List Value}{w:Option Addr}(hsv:ev ts s= .slice w n 0) (G:Grown b N h e sz n cs w) (C:Cells h sz m (ev ts x) nc) (hm:0<m) (hlo:lo<=b) (hb:b<=Br) (hN:N<=Br) (hsm:(n+m+1) * (bytes+1)<=1099511627776)
 (hr:∀v r row,b<=r->r<Br+1->(r<N\/r=Br)->Grown b (Br+1) (h.put r row) e sz (n+m) (cs++nc) v->k (.slice v (n+m) 0) (h.put r row)):DT P lo Br ts h (.append e sz bytes s x) k:=by
 obtain⟨c1,c2,c3,c4⟩:=C
 have c2:=c2 hm
 have hm0:¬m=0:=by omega
 have hl:(cs++nc).length=(n+m) *sz:=by rw[List.length_append,G.len,c3,Nat.add_mul]
 rcases G.is with⟨h0,hv⟩|⟨r,g,lens,valid,hv,h1,h2,h3,h4,h5,h6,h7⟩<;>rw[hv]at hsv<;>have hv:=hsv
 ·subst h0
  have hcs:cs=[]:=List.length_eq_zero_iff.1 (by rw[G.len];simp)
  subst hcs
  simp only[List.nil_append,Nat.zero_add]at hr hsm hl
  refine DT.mk (v:=.slice (some ⟨Br,0,some 0⟩) m 0) (h':=h.put Br (.grow nc e sz [nc.length] 0)) ?_ (Nat.zero_add m▸hr (some ⟨Br,0,some 0⟩) Br (.grow nc e sz [nc.length] 0) hb (by omega) (.inr rfl) (.new hb (by omega) hl hm))
  simp only[C6,EE,hv,c1,Option.bind_some,if_neg hm0,c2,Ef]
  rw[if_pos (by unfold small;omega)]
 ·refine DT.mk (v:=.slice (some ⟨r,0,some (g+1)⟩) (n+m) 0) (h':=h.put r (.grow (cs++nc) e sz ((cs.length+nc.length)::lens) valid)) ?_ (hr _ _ _ h1 (by omega) (.inl h2) ⟨hl,.inr ⟨r,g+1,(cs.length+nc.length)::lens,valid,rfl,h1,by omega,by simp[H.put],by omega,by simp[h5],?_,by omega⟩⟩)
  ·have hf:¬far<=0:=by unfold far;omega
   simp only[C6,EE,hv,c1,Option.bind_some,if_neg hm0,c2,if_neg hf,KY,h3]
   rw[if_neg (by omega)]
   simp only[Pf]
   rw[if_pos ⟨by omega,h4,h5,trivial,trivial,G.len.symm,trivial,trivial,by unfold small;omega,c4⟩]
  ·rw[h5,PO,List.length_append]

structure Full (h:H) (sz n:Nat) (cs:List Value) (v:Option Addr) (c:Nat):Prop where
 len:cs.length=n*sz
 is:(n=0/\((v=none/\c=0)\/∃a,v=some a/\c=far))\/∃a,v=some a/\c<far/\(a.spot=none/\c=n\/(∃g,a.spot=some g)/\c=2*n+1)/\h.Bu a (n*sz)=some cs

theorem aK {e:TypeId}{sz bytes n m b:Nat}{s x:BH}{cs nc:List Value}{w:Option Addr}{c:Nat}(hsv:ev ts s= .slice w n c) (G:Full h sz n cs w c) (C:Cells h sz m (ev ts x) nc) (hm:0<m) (hb:b<=Br) (hsm:(n+m+1) * (bytes+1)<=1099511627776)
 (hr:∀v row,Grown b (Br+1) (h.put Br row) e sz (n+m) (cs++nc) v->k (.slice v (n+m) 0) (h.put Br row)):DT P lo Br ts h (.append e sz bytes s x) k:=by
 obtain⟨c1,c2,c3,c4⟩:=C
 have c2:=c2 hm
 have hm0:¬m=0:=by omega
 have hl:(cs++nc).length=(n+m) *sz:=by rw[List.length_append,G.len,c3,Nat.add_mul]
 have hs1:small (n+m) bytes:=by unfold small;omega
 have hs2:small n bytes:=by
  unfold small
  have:(n+1) * (bytes+1)<=(n+m+1) * (bytes+1):=Nat.mul_le_mul_right _ (by omega)
  omega
 refine DT.mk (v:=.slice (some ⟨Br,0,some 0⟩) (n+m) 0) (h':=h.put Br (.grow (cs++nc) e sz [(cs++nc).length] 0)) ?_ (hr _ _ (.new hb (by omega) hl (by omega)))
 rcases G.is with⟨h0,⟨hv,rfl⟩|⟨a,hv,rfl⟩⟩|⟨a,hv,hf,hc,hld⟩<;>rw[hv]at hsv<;>have hv:=hsv
 ·subst h0
  have hcs:cs=[]:=List.length_eq_zero_iff.1 (by rw[G.len];simp)
  subst hcs
  simp only[Nat.zero_add]at hs1
  simp only[C6,EE,hv,c1,Option.bind_some,if_neg hm0,c2,Ef,if_pos hs1,List.nil_append,Nat.zero_add]
 ·subst h0
  have hcs:cs=[]:=List.length_eq_zero_iff.1 (by rw[G.len];simp)
  subst hcs
  simp only[Nat.zero_add]at hs1
  simp only[C6,EE,hv,c1,Option.bind_some,if_neg hm0,c2,Ef,List.nil_append,Nat.zero_add,if_pos (Nat.le_refl far)]
  rw[if_pos ⟨trivial,trivial,hs1⟩]
 ·have hnf:¬far<=c:=by omega
  have hn1:¬n+m<=n:=by omega
  rcases hc with⟨hc,rfl⟩|⟨⟨g,hg⟩,rfl⟩
  ·simp only[C6,EE,hv,c1,Option.bind_some,if_neg hm0,c2,if_neg hnf,KY,hc,G8]
   rw[if_neg hn1,if_pos ⟨hs1,hs2⟩,hld]
   rfl
  ·have e1:(2*n+1)%2=1:=by omega
   have e2:(2*n+1) / 2=n:=by omega
   simp only[C6,EE,hv,c1,Option.bind_some,if_neg hm0,c2,if_neg hnf,KY,hg,G8,e1,e2,if_true]
   rw[if_neg hn1,if_pos ⟨hs1,hs2⟩,hld]
   rfl

theorem jL (cs:List Value):cut cs 0 cs.length=some cs:=by simp[cut]
theorem Grown.cells {b N:Nat}{e:TypeId}{sz n:Nat}{cs:List Value}{v:Option Addr}(G:Grown b N h e sz n cs v) (h0:0<n):∃a,v=some a/\h.Bu a (n*sz)=some cs/\b<=a.block/\a.block<N:=by
 rcases G.is with⟨h0,hv⟩|⟨r,g,lens,valid,hv,h1,h2,h3,h4,h5,h6,h7⟩
 ·omega
 ·refine⟨_,hv,?_,h1,h2⟩
  simp only[H.Bu,h3,Option.bind_some,Cr]
  rw[if_pos ⟨h4,by omega,by rw[h6,G.len];omega⟩,<-G.len]
  exact jL cs
end

theorem Sb {h:H}{a:Addr}{n sz:Nat}{f:Nat->List Value}(hf:∀i,(f i).length=sz) (hl:h.Bu a (n*sz)=some (rowsOf f n)):JP h a n sz f:=fun i hi=>by
 have hc:cut (rowsOf f n) (i*sz) sz=some (f i):=by
  have:=EN hf hi [] [] (a:=i*sz) (by simp)
  simpa using this
 unfold H.Bu at hl⊢
 cases hrow:h.get a.block with
 |none=>rw[hrow]at hl;simp at hl
 | some row=>
   rw[hrow]at hl
   simp only[BI,hrow,Option.bind_some]at hl⊢
   have hle:(i+1) *sz<=n*sz:=Nat.mul_le_mul_right _ hi
   rw[Nat.add_mul,Nat.one_mul]at hle
   cases row<;>cases hs:a.spot<;>simp only[hs,Cr]at hl⊢<;>first
    |exact MJ hl hc
    | (split at hl
       ·rename_i q
        rw[if_pos ⟨q.1,q.2.1,by omega⟩]
        exact MJ hl hc
       ·simp at hl)
    |simp at hl
theorem Ym {row:BQ}{off n m:Nat}{s:Option Nat}{l k:List Value}(h1:Cr off n row s=some l) (h2:Cr (off+n) m row s=some k):Cr off (n+m) row s=some (l++k):=by
 have main:∀c:List Value,cut c off n=some l->cut c (off+n) m=some k->cut c off (n+m)=some (l++k):=by
  intro c a b
  unfold cut at*
  split at a
  ·split at b
   ·simp only[Option.some.injEq]at a b
    rw[if_pos (by omega),<-a,<-b,List.take_add]
    simp[List.drop_drop]
   ·simp at b
  ·simp at a
 cases row<;>cases s<;>simp only[Cr]at h1 h2⊢<;>first
  |exact main _ h1 h2
  | (split at h1
     ·split at h2
      ·rename_i a b
       rw[if_pos ⟨a.1,a.2.1,by omega⟩]
       exact main _ h1 h2
      ·simp at h2
     ·simp at h1)
  |simp at h1
theorem JP.all {h:H}{a:Addr}{n sz:Nat}{f:Nat->List Value}(he:JP h a n sz f) (h0:0<n):∀k,0<k->k<=n->h.Bu a (k*sz)=some (rowsOf f k)
 |0,hk,_=>by omega
 | 1,_,hn=>by
   have:=he 0 h0
   simpa[rowsOf,BI]using this
 | k +2,_,hn=>by
   have ih:=he.all h0 (k+1) (by omega) (by omega)
   have hs:=he (k+1) (by omega)
   unfold H.Bu at*
   cases hrow:h.get a.block with
   |none=>rw[hrow]at ih;simp at ih
   | some row=>
     rw[hrow]at ih
     simp only[BI,hrow,Option.bind_some]at ih hs⊢
     have:=Ym ih hs
     rw[Nat.add_mul (k+1) 1 sz,Nat.one_mul]
     exact this
theorem Grown.els {b N:Nat}{h:H}{e:TypeId}{sz n:Nat}{f:Nat->List Value}{v:Option Addr}(G:Grown b N h e sz n (rowsOf f n) v) (hf:∀i,(f i).length=sz):∃a,(0<n->v=some a)/\JP h a n sz f/\(0<n->b<=a.block/\a.block<N):=by
 rcases Nat.eq_zero_or_pos n with h0|h0
 ·subst h0
  exact⟨⟨0,0,none⟩,fun h=>by omega,fun i hi=>by omega,fun h=>by omega⟩
 ·obtain⟨a,hv,hl,hb⟩:=G.cells h0
  exact⟨a,fun _=>hv,Sb hf hl,fun _=>hb⟩
theorem Oi {f:Nat->List Value}(hf:∀i,(f i).all Value.oneCell'=true):∀n,(rowsOf f n).all Value.oneCell'=true
 |0=>rfl
 |n+1=>by simp only[rowsOf,List.all_append,Oi hf n,hf n,Bool.and_self]
theorem Cells.els {h:H}{sz n c:Nat}{b:Option Addr}{a:Addr}{f:Nat->List Value}(he:JP h a n sz f) (hb:0<n->b=some a) (hc:0<n->c<far) (hf:∀i,(f i).length=sz) (ho:∀i,(f i).all Value.oneCell'=true):Cells h sz n (.slice b n c) (rowsOf f n):=
 ⟨rfl,fun h0=>by
  obtain rfl:=hb h0
  have:=hc h0
  simp only[Dv]
  rw[if_neg (by omega)]
  exact he.all h0 n h0 (Nat.le_refl _),E5 hf n,Oi ho n⟩
theorem Full.nil {h:H}{sz:Nat}:Full h sz 0 [] none 0:=⟨by simp,.inl ⟨rfl,.inl ⟨rfl,rfl⟩⟩⟩
theorem DC {f g:Nat->List Value}:∀n,(∀i,i<n->f i=g i)->rowsOf f n=rowsOf g n
 |0,_=>rfl
 |n+1,h=>by simp only[rowsOf];rw[DC n fun i hi=>h i (by omega),h n (by omega)]

def A0 (f:Nat->Int) (n:Nat):List Value:=rowsOf (fun i=>[.int .i64 (f i)]) n
theorem EL (f:Nat->Int) (n:Nat):(A0 f n).length=n:=by
 have:=E5 (g:=fun i=>[Value.int .i64 (f i)]) (w:=1) (fun _=>rfl) n
 simpa[A0]using this
theorem J5 (z:List Value):∀n,HX z n=rowsOf (fun _=>z) n
 |0=>rfl
 | n+1=>by
   have h:∀k,z++rowsOf (fun _=>z) k=rowsOf (fun _=>z) k++z:=by
    intro k
    induction k with
    |zero=>simp[rowsOf]
    |succ k ih=>simp only[rowsOf];rw[<-List.append_assoc,ih]
   simp only[HX,rowsOf,J5 z n,h]
def F7 (f:Nat->Int) (i:Nat) (v:Int):Nat->Int:=fun j=>if j=i then v else f j
theorem Gn (f:Nat->Int) {n i a:Nat}(v:Int) (hi:i<n) (ha:a=i):splice (A0 f n) a [.int .i64 v]=A0 (F7 f i v) n:=by
 have:=JS (g:=fun i=>[Value.int .i64 (f i)]) (w:=1) (fun _=>rfl) hi [] [] [.int .i64 v] rfl (a:=a) (by simp[ha])
 simp only[List.nil_append,List.append_nil]at this
 unfold A0
 rw[this]
 congr 1
 funext j
 simp only[VH,F7]
 split<;>rfl
theorem JH {h:H}{r n:Nat}{e:TypeId}{f:Nat->Int}(hg:h.get r=some (.cells (A0 f n) e)):Ints h ⟨r,0,none⟩ n f:=fun i hi=>by
 refine CP hg ?_
 have:=EN (g:=fun i=>[Value.int .i64 (f i)]) (w:=1) (fun _=>rfl) hi [] [] (a:=0+i) (by simp)
 simpa[A0]using this
theorem Ints.shift {h:H}{a:Addr}{n:Nat}{f:Nat->Int}(hi:Ints h a n f) (l:Nat):Ints h (BI a (l*1)) (n - l) (fun i=>f (l+i)):=fun i hlt=>by
 have:=hi (l+i) (by omega)
 simpa[BI,Nat.add_assoc]using this
theorem Ints.less {h:H}{a:Addr}{n m:Nat}{f:Nat->Int}(hi:Ints h a n f) (hm:m<=n):Ints h a m f:=fun i hlt=>hi i (by omega)
theorem Ints.load {h:H}{a:Addr}{n:Nat}{f:Nat->Int}(hi:Ints h a n f) (h0:0<n):h.Bu a n=some (A0 f n):=by
 have he:JP h a n 1 (fun i=>[.int .i64 (f i)]):=fun i hlt=>by
  have:=hi i hlt
  simpa using this
 have:=he.all h0 n h0 (Nat.le_refl _)
 simpa[A0]using this
theorem bG (f:Nat->Int) (n:Nat):(A0 f n).all Value.oneCell'=true:=Oi (fun _=>rfl) n
attribute [irreducible] A0

section
variable {P:Program}{lo Br:Nat}{ts:Ts}{h h':H}{k:Value->H->Prop}
theorem X0 {sz n c l:Nat}{x lo':BH}{a:Addr}{k1:IntKind}(hx:ev ts x= .slice (some a) n c) (hl:ev ts lo'= .int k1 (l:Int)) (hs:a.spot=none) (h1:l<=n) (h2:n<=c) (h3:l<c) (hf:c<far)
 (hr:k (.slice (some (BI a (l*sz))) (n - l) (c - l)) h):DT P lo Br ts h (.HL sz x (some lo') none none) k:=
 DT.mk (by
  have n1:C9 (ev ts lo')=some l:=by rw[hl];simp[C9]
  have hf2:c - l<far:=by omega
  have hne:¬c=l:=by omega
  simp[C6,HL,hx,hs,Ee,KU,CM,n1,h1,h2,enc1,hf2,Dy,hne,keep,Nat.not_le.2 hf]) hr
theorem rZ {r n m cd cs:Nat}{e:TypeId}{dd s:BH}{a:Addr}{c:List Value}{f:Nat->Int}(hd:ev ts dd= .slice (some ⟨r,0,none⟩) n cd) (hs:ev ts s= .slice (some a) m cs) (hi:Ints h a m f) (hn:0<n) (hnm:n<=m)
 (hget:h.get r=some (.cells c e)) (hlen:c.length=n) (hlo:lo<=r) (qL:cd<far) (hfs:cs<far) (hr:k (.int .i64 n) (h.put r (.cells (A0 f n) e))):DT P lo Br ts h (.copy 1 dd s) k:=
 DT.mk (by
  have hall:=(hi.less hnm).load hn
  have hst:h.En lo ⟨r,0,none⟩ (A0 f n)=some (h.put r (.cells (A0 f n) e)):=by
   unfold H.En
   rw[if_pos ⟨hlo,bG f n⟩]
   have hsp:splice c 0 (A0 f n)=A0 f n:=by
    unfold splice
    rw[EL]
    simp[hlen]
   simp[hget,DI,EL,hlen,hsp]
  have hn0:n≠0:=by omega
  have hmin:(if m<=n then m else n)=n:=by split<;>omega
  simp[C6,N8,hd,hs,FK,Dv,hmin,hall,hn0,hst,Nat.not_le.2 qL,Nat.not_le.2 hfs]) hr
end


def cellsOf {α:Type}(g:α->List Value) (l:List α):List Value:=l.flatMap g
theorem JK {α:Type}(g:α->List Value) (l:List α) (x:α):cellsOf g (l++[x])=cellsOf g l++g x:=by simp[cellsOf]
theorem Om {α:Type}{g:α->List Value}{f:Nat->α}:∀n,rowsOf (fun i=>g (f i)) n=cellsOf g ((List.range n).map f)
 |0=>rfl
 |n+1=>by rw[List.range_succ,List.map_append,List.map_cons,List.map_nil,JK,<-Om n];rfl
theorem Sl {α:Type}(l:List α) (d:α):(List.range l.length).map (fun i=>l.getD i d)=l:=by
 apply List.ext_getElem
 ·simp
 ·intro i h1 h2
  simp[h2]
theorem KX {α:Type}(g:α->List Value) (l:List α) (d:α):cellsOf g l=rowsOf (fun i=>g (l.getD i d)) l.length:=by
 rw[Om (f:=fun i=>l.getD i d),Sl]

theorem IB {h:H}{a:Addr}{n o k:Nat}{l l':List Value}(hl:h.Bu a n=some l) (hc:cut l o k=some l'):h.Bu (BI a o) k=some l':=by
 unfold H.Bu at hl⊢
 cases hrow:h.get a.block with
 |none=>rw[hrow]at hl;simp at hl
 | some row=>
   rw[hrow]at hl
   simp only[BI,hrow,Option.bind_some]at hl⊢
   have hlen:l.length=n:=rU hl
   have hle:o+k<=n:=by
    unfold cut at hc
    split at hc
    ·omega
    ·cases hc
   cases row<;>cases hs:a.spot<;>simp only[hs,Cr]at hl⊢<;>first
    |exact MJ hl hc
    | (split at hl
       ·rename_i q
        rw[if_pos ⟨q.1,q.2.1,by omega⟩]
        exact MJ hl hc
       ·simp at hl)
    |simp at hl

structure N5 (r:Nat) (h:H) (e:TypeId) (sz n:Nat) (cs:List Value) (v:Option Addr):Prop where
 len:cs.length=n*sz
 is:∃g lens valid,v=some ⟨r,0,some g⟩/\h.get r=some (.grow cs e sz lens valid)/\valid<=g/\g+1=lens.length/\GN lens g=cs.length/\0<n
theorem Grown.t6 {b N:Nat}{h:H}{e:TypeId}{sz n:Nat}{cs:List Value}{v:Option Addr}(G:Grown b N h e sz n cs v) (h0:0<n):∃r,N5 r h e sz n cs v/\b<=r/\r<N:=by
 rcases G.is with⟨h0,hv⟩|⟨r,g,lens,valid,hv,h1,h2,h3,h4⟩
 ·omega
 ·exact⟨r,⟨G.len,g,lens,valid,hv,h3,h4⟩,h1,h2⟩
theorem N5.grown {r b N:Nat}{h:H}{e:TypeId}{sz n:Nat}{cs:List Value}{v:Option Addr}(G:N5 r h e sz n cs v) (hb:b<=r) (hN:r<N):Grown b N h e sz n cs v:=by
 obtain⟨g,lens,valid,hv,h3,h4⟩:=G.is
 exact⟨G.len,.inr ⟨r,g,lens,valid,hv,hb,hN,h3,h4⟩⟩
theorem N5.frame {r:Nat}{h h':H}{e:TypeId}{sz n:Nat}{cs:List Value}{v:Option Addr}(G:N5 r h e sz n cs v) (hs:h'.get r=h.get r):N5 r h' e sz n cs v:=by
 obtain⟨g,lens,valid,hv,h3,h4⟩:=G.is
 exact⟨G.len,g,lens,valid,hv,hs.trans h3,h4⟩
theorem N5.load {r:Nat}{h:H}{e:TypeId}{sz n:Nat}{cs:List Value}{v:Option Addr}(G:N5 r h e sz n cs v):∃a,v=some a/\a.block=r/\(∀off k l,cut cs off k=some l->h.Bu (BI a off) k=some l)/\
 ∀lo off vs,lo<=r->vs.all Value.oneCell'=true->off+vs.length<=cs.length->∃row,h.En lo (BI a off) vs=some (h.put r row)/\N5 r (h.put r row) e sz n (splice cs off vs) v:=by
 obtain⟨g,lens,valid,hv,h3,h4,h5,h6,h7⟩:=G.is
 refine⟨_,hv,rfl,fun off k l hc=>?_,fun lo off vs hlo ho hle=>?_⟩
 ·have hle:off+k<=cs.length:=by
   unfold cut at hc
   split at hc
   ·assumption
   ·cases hc
  have h9:valid<=g/\g<lens.length/\0+off+k<=GN lens g:=⟨h4,by omega,by omega⟩
  show(h.get r).bind (fun row=>Cr (0+off) k row (some g))=some l
  rw[h3]
  show(if valid<=g/\g<lens.length/\0+off+k<=GN lens g then cut cs (0+off) k else none)=some l
  rw[if_pos h9,Nat.zero_add]
  exact hc
 ·refine⟨.grow (splice cs off vs) e sz lens g,?_,?_,g,lens,g,hv,by simp[H.put],Nat.le_refl _,h5,?_,h7⟩
  ·have h9:valid<=g/\g+1=lens.length/\0+off+vs.length<=cs.length:=⟨h4,h5,by omega⟩
   show(if lo<=r/\vs.all Value.oneCell'=true then(h.get r).bind (fun row=>(DI (0+off) vs row (some g)).map fun row'=>h.put r row')else none)=_
   rw[if_pos ⟨hlo,ho⟩,h3]
   show Option.map (fun row'=>h.put r row') (if valid<=g/\g+1=lens.length/\0+off+vs.length<=cs.length then some (.grow (splice cs (0+off) vs) e sz lens g)else none)=_
   rw[if_pos h9,Nat.zero_add]
   rfl
  ·rw[RX hle];exact G.len
  ·rw[RX hle];exact h6
section
variable {P:Program}{lo Br:Nat}{ts:Ts}{h h':H}{k:Value->H->Prop}
theorem Sm {e:TypeId}{sz bytes n m r:Nat}{s x:BH}{cs nc:List Value}{w:Option Addr}(hsv:ev ts s= .slice w n 0) (G:N5 r h e sz n cs w) (C:Cells h sz m (ev ts x) nc) (hm:0<m) (hlo:lo<=r) (hsm:(n+m+1) * (bytes+1)<=1099511627776)
 (hr:∀v row,N5 r (h.put r row) e sz (n+m) (cs++nc) v->k (.slice v (n+m) 0) (h.put r row)):DT P lo Br ts h (.append e sz bytes s x) k:=by
 obtain⟨c1,c2,c3,c4⟩:=C
 have c2:=c2 hm
 have hm0:¬m=0:=by omega
 have hl:(cs++nc).length=(n+m) *sz:=by rw[List.length_append,G.len,c3,Nat.add_mul]
 obtain⟨g,lens,valid,hv,h3,h4,h5,h6,h7⟩:=G.is
 rw[hv]at hsv
 refine DT.mk (v:=.slice (some ⟨r,0,some (g+1)⟩) (n+m) 0) (h':=h.put r (.grow (cs++nc) e sz ((cs.length+nc.length)::lens) valid)) ?_ (hr _ _ ⟨hl,g+1,(cs.length+nc.length)::lens,valid,rfl,by simp[H.put],by omega,by simp[h5],?_,by omega⟩)
 ·have hf:¬far<=0:=by unfold far;omega
  simp only[C6,EE,hsv,c1,Option.bind_some,if_neg hm0,c2,if_neg hf,KY,h3]
  rw[if_neg (by omega)]
  simp only[Pf]
  rw[if_pos ⟨by omega,h4,h5,trivial,trivial,G.len.symm,trivial,trivial,by unfold small;omega,c4⟩]
 ·rw[h5,PO,List.length_append]
end

end AE

/- Slices that grow, their rows known. -/
namespace AE
open Go Go.RowKit
def GG (r:Nat) (h:H) (e:TypeId) (sz n:Nat) (cs:List Value) (v:Option Addr):Prop:=(n=0/\v=none/\cs=[])\/(0<n/\N5 r h e sz n cs v)
theorem GG.nil {r:Nat}{h:H}{e:TypeId}{sz:Nat}:GG r h e sz 0 [] none:=.inl ⟨rfl,rfl,rfl⟩
theorem GG.frame {r n sz:Nat}{e:TypeId}{h h':H}{cs:List Value}{v:Option Addr}(k:GG r h e sz n cs v) (hr:0<n->h'.get r=h.get r):GG r h' e sz n cs v:=
 k.elim .inl fun⟨h0,G⟩=>.inr ⟨h0,G.frame (hr h0)⟩
section
variable {P:Program}{lo Br:Nat}{ts:Ts}{h:H}{k:Value->H->Prop}
theorem EP {r n m bytes sz:Nat}{e:TypeId}{cs nc:List Value}{v:Option Addr}{sx x:BH}(G:GG r h e sz n cs v) (hsv:ev ts sx= .slice v n 0) (C:Cells h sz m (ev ts x) nc) (hm:0<m) (hlo:lo<=Br) (hlr:0<n->lo<=r/\r<Br) (hsm:(n+m+1) * (bytes+1)<=1099511627776)
 (hr:∀v' r' row,(n=0->r'=Br)->(0<n->r'=r)->r'<Br+1->GG r' (h.put r' row) e sz (n+m) (cs++nc) v'->k (.slice v' (n+m) 0) (h.put r' row)):DT P lo Br ts h (.append e sz bytes sx x) k:=by
 rcases G with⟨rfl,rfl,rfl⟩|⟨h0,G⟩
 ·apply V9 (b:=Br) (N:=Br) (n:=0) (m:=m) (cs:=[]) (nc:=nc)
  case hsv=>exact hsv
  case G=>exact Grown.nil
  case C=>exact C
  case hm=>exact hm
  case hlo=>omega
  case hb=>omega
  case hN=>omega
  case hsm=>omega
  intro v' j row hj1 hj2 hj3 G'
  obtain⟨r4,G4,hr4,yD⟩:=G'.t6 (by omega)
  have hje:j=Br:=by omega
  subst hje
  obtain rfl:r4=j:=by omega
  exact hr v' r4 row (fun _=>rfl) (fun h=>absurd h (Nat.lt_irrefl 0)) (by omega) (.inr ⟨by omega,G4⟩)
 ·apply Sm (r:=r) (n:=n) (m:=m) (cs:=cs) (nc:=nc)
  case hsv=>exact hsv
  case G=>exact G
  case C=>exact C
  case hm=>exact hm
  case hlo=>exact(hlr h0).1
  case hsm=>omega
  intro v' row G5
  exact hr v' r row (fun h=>by omega) (fun _=>rfl) (by have:=hlr h0;omega) (.inr ⟨by omega,G5⟩)
theorem GG.els {r n sz:Nat}{e:TypeId}{f:Nat->List Value}{v:Option Addr}(G:GG r h e sz n (rowsOf f n) v) (hf:∀i,(f i).length=sz):∃a,(0<n->v=some a)/\JP h a n sz f/\(0<n->a.block=r):=by
 rcases G with⟨rfl, -, -⟩|⟨h0,G⟩
 ·exact⟨⟨0,0,none⟩,fun h=>by omega,fun i hi=>by omega,fun h=>by omega⟩
 ·obtain⟨a,h1,h2,h3⟩:=(G.grown (b:=r) (N:=r+1) (Nat.le_refl _) (by omega)).els hf
  exact⟨a,h1,h2,fun h=>by have:=h3 h;omega⟩
end
end AE

/- Slices that grew by one each time: their rows, to the last mark. -/
namespace AE
open Go Go.RowKit
def Nb (sz:Nat):Nat->List Nat
 |0=>[]
 |n+1=>((n+1) *sz)::Nb sz n
theorem MC (sz:Nat):∀n,(Nb sz n).length=n
 |0=>rfl
 |n+1=>by simp[Nb,MC sz n]
theorem bg (sz n:Nat):GN (Nb sz (n+1)) n=(n+1) *sz:=by
 have:=PO ((n+1) *sz) (Nb sz n)
 rw[MC]at this
 exact this
def On (e:TypeId) (sz n:Nat) (cs:List Value):BQ:=.grow cs e sz (Nb sz n) 0
def Ft (r:Nat):Nat->Option Addr
 |0=>none
 |n+1=>some ⟨r,0,some n⟩
structure GX (r:Nat) (h:H) (e:TypeId) (sz n:Nat) (cs:List Value):Prop where
 len:cs.length=n*sz
 g:0<n->h.get r=some (On e sz n cs)
theorem GX.nil {r:Nat}{h:H}{e:TypeId}{sz:Nat}:GX r h e sz 0 []:=⟨by simp,fun h=>absurd h (Nat.lt_irrefl 0)⟩
theorem GX.frame {r:Nat}{h h':H}{e:TypeId}{sz n:Nat}{cs:List Value}(k:GX r h e sz n cs) (s:0<n->h'.get r=h.get r):GX r h' e sz n cs:=⟨k.len,fun h0=>(s h0).trans (k.g h0)⟩
section
variable {P:Program}{lo Br:Nat}{ts:Ts}{h:H}{k:Value->H->Prop}
theorem aJ {r n bytes sz:Nat}{e:TypeId}{cs nc:List Value}{s x:BH}(G:GX r h e sz n cs) (hsv:ev ts s= .slice (Ft r n) n 0) (C:Cells h sz 1 (ev ts x) nc) (hlo:0<n->lo<=r) (hsm:(n+1+1) * (bytes+1)<=1099511627776)
 (hr:∀r',(n=0->r'=Br)->(0<n->r'=r)->GX r' (h.put r' (On e sz (n+1) (cs++nc))) e sz (n+1) (cs++nc)->k (.slice (Ft r' (n+1)) (n+1) 0) (h.put r' (On e sz (n+1) (cs++nc)))):DT P lo Br ts h (.append e sz bytes s x) k:=by
 obtain⟨c1,c2,c3,c4⟩:=C
 have c2:=c2 (by omega)
 have hl:(cs++nc).length=(n+1) *sz:=by rw[List.length_append,G.len,c3,Nat.add_mul]
 have gx:∀r',GX r' (h.put r' (On e sz (n+1) (cs++nc))) e sz (n+1) (cs++nc):=fun r'=>⟨hl,fun _=>by simp[H.put]⟩
 cases n with
 | zero=>
   have hcs:cs=[]:=List.length_eq_zero_iff.1 (by rw[G.len];simp)
   subst hcs
   simp only[Ft]at hsv
   have hrow:On e sz (0+1) ([]++nc)= .grow nc e sz [nc.length] 0:=by
    simp only[List.nil_append,Nat.zero_add]at hl
    simp only[On,List.nil_append,Nb,Nat.zero_add,hl]
   refine DT.mk (v:=.slice (Ft Br (0+1)) (0+1) 0) (h':=h.put Br (On e sz (0+1) ([]++nc))) ?_ (hr Br (fun _=>rfl) (fun h=>absurd h (Nat.lt_irrefl 0)) (gx Br))
   rw[hrow]
   simp only[C6,EE,hsv,c1,Option.bind_some,c2,Ef]
   rw[if_neg (by decide),if_pos (by unfold small;omega)]
   rfl
 | succ n=>
   simp only[Ft]at hsv
   have h3:=G.g (by omega)
   refine DT.mk (v:=.slice (some ⟨r,0,some (n+1)⟩) (n+1+1) 0) (h':=h.put r (On e sz (n+1+1) (cs++nc))) ?_ (hr r (fun h=>by omega) (fun _=>rfl) (gx r))
   have hf:¬far<=0:=by unfold far;omega
   have hrow:On e sz (n+1+1) (cs++nc)= .grow (cs++nc) e sz ((cs.length+nc.length)::Nb sz (n+1)) 0:=by
    rw[List.length_append]at hl
    simp only[On,Nb,<-hl]
   rw[hrow]
   simp only[C6,EE,hsv,c1,Option.bind_some,c2,if_neg hf,KY,h3,On]
   rw[if_neg (by omega),if_neg (by decide)]
   simp only[Pf]
   rw[if_pos ⟨hlo (by omega),Nat.zero_le _,by rw[MC],trivial,trivial,G.len.symm,trivial,trivial,by unfold small;omega,c4⟩]
end
theorem GX.t6 {r n sz:Nat}{h:H}{e:TypeId}{cs:List Value}(k:GX r h e sz n cs) (h0:0<n):N5 r h e sz n cs (Ft r n):=by
 cases n with
 |zero=>omega
 |succ n=>exact⟨k.len,n,Nb sz (n+1),0,rfl,k.g h0,Nat.zero_le _,by rw[MC],by rw[bg,k.len],h0⟩
end AE

/- Slices cut. -/
namespace AE
open Go Go.RowKit
def Ajb (a:Addr) (n c:Nat):Prop:=(a.spot=none/\n<=c/\c<far)\/((∃g,a.spot=some g)/\c=0)
section
variable {P:Program}{lo Br:Nat}{ts:Ts}{h:H}{k:Value->H->Prop}
theorem xB {sz n c l:Nat}{x lo':BH}{a:Addr}{k1:IntKind}(hx:ev ts x= .slice (some a) n c) (hh:ev ts lo'= .int k1 (l:Int)) (hs:Ajb a n c) (h1:l<=n) (h0:0<n) (hn:n<1000000) (hz:sz<1000)
 (hr:∀a' c',(l<n->a'=BI a (l*sz))->k (.slice (some a') (n - l) c') h):DT P lo Br ts h (.HL sz x (some lo') none none) k:=by
 have n1:C9 (ev ts lo')=some l:=by rw[hh];simp[C9]
 have hm:l*sz<=1000000*1000:=Nat.mul_le_mul (by omega) (by omega)
 rcases hs with⟨hs,h2,hf⟩|⟨⟨g,hs⟩,rfl⟩
 ·refine DT.mk (v:=.slice (some (Dy a l c sz)) (n - l) (c - l)) ?_ (hr _ (c - l) fun hl=>?_)
  ·have hf2:c - l<far:=by omega
   simp[C6,HL,hx,hs,Ee,KU,CM,n1,enc1,keep,Nat.not_le.2 hf,hf2]
   omega
  ·unfold Dy;rw[if_neg (by omega)]
 ·rcases Nat.lt_or_ge l n with hl|hl
  ·refine DT.mk (v:=.slice (some (BI a (l*sz))) (n - l) (2*l)) ?_ (hr _ (2*l) fun _=>rfl)
   have hf:¬far<=0:=by unfold far;omega
   have hf2:2*l<far:=by unfold far;omega
   simp[C6,HL,hx,hs,R5,VT,KU,CM,n1,keep,hf,hf2]
   omega
  ·obtain rfl:l=n:=by omega
   refine DT.mk (v:=.slice (some a) (l - l) (Qk (0 / 2+l) (l*sz))) ?_ (hr _ _ fun h=>absurd h (Nat.lt_irrefl _))
   have hf:¬far<=0:=by unfold far;omega
   have h3:¬(l<=l/\l<=l/\(l=0\/l<l)/\0+2*l<far):=by omega
   have h4:l<=l/\True/\True/\l*sz<4294967296:=⟨Nat.le_refl _,trivial,trivial,by omega⟩
   simp only[C6,HL,hx,hs,R5,VT,KU,CM,Option.map_some,Option.map_none,n1,keep]
   rw[if_neg hf]
   simp only[Nat.zero_mod]
   rw[if_neg (by decide),if_neg h3,if_pos h4]
   simp
end
end AE

/- Maps from numbers to numbers, of which nothing was deleted. -/
set_option linter.unusedVariables false
namespace AE
open Go Go.RowKit

def ents:List (Nat × Nat)->Nat->List MapEntry
 |[],_=>[]
 |(k,v)::l,i=>⟨.int .i64 k,.int .i64 v,i⟩::ents l (i+1)
def mz (l:List (Nat × Nat)) (k v:Nat):List (Nat × Nat):=match l.findIdx? (fun p=>p.1==k)with
 |some i=>l.set i (k,v)
 |none=>l++[(k,v)]

theorem Vk:∀(l:List (Nat × Nat)) (i:Nat),Je (ents l i)=true
 |[],_=>rfl
 | (k,v)::l,i=>by
   have:=Vk l (i+1)
   simp only[Je]at this⊢
   simp only[ents,List.all_cons,this,Bool.and_true]
   rfl
theorem Y7:∀(l:List (Nat × Nat)) (i j:Nat),(ents l i)[j]? =(l[j]?).map fun p=>⟨.int .i64 p.1,.int .i64 p.2,i+j⟩
 |[],_,_=>rfl
 |(k,v)::l,i,0=>rfl
 | (k,v)::l,i,j+1=>by
   simp only[ents,List.getElem?_cons_succ,Y7 l (i+1) j]
   congr 1
   funext p
   congr 1
   omega
theorem Y6:∀(l:List (Nat × Nat)) (i j k v:Nat),(ents l i).set j ⟨.int .i64 k,.int .i64 v,i+j⟩=ents (l.set j (k,v)) i
 |[],_,_,_,_=>rfl
 |(k,v)::l,i,0,_,_=>rfl
 | (k,v)::l,i,j+1,_,_=>by
   simp only[ents,List.set_cons_succ]
   rw[<-Y6 l (i+1) j,show i+1+j=i+(j+1) by omega]
theorem Y8:∀(l:List (Nat × Nat)) (i k v:Nat),ents l i++[⟨.int .i64 k,.int .i64 v,i+l.length⟩]=ents (l++[(k,v)]) i
 |[],_,_,_=>rfl
 | (k,v)::l,i,_,_=>by
   simp only[ents,List.cons_append,List.length_cons]
   rw[<-Y8 l (i+1),show i+1+l.length=i+(l.length+1) by omega]

theorem Vh (k:Nat):∀(l:List (Nat × Nat)) (i j:Nat),Instr.findNow (.int .i64) (.int .i64 (k:Int)) (bare (ents l i)) j=some ((l.findIdx? (fun p=>p.1==k)).map fun p=>(p+j,undef))
 |[],_,_=>rfl
 | (a,b)::l,i,j=>by
   have ih:=Vh k l (i+1) (j+1)
   simp only[bare,ents,List.map_cons,Instr.findNow,Instr.sameNow,if_true]at ih⊢
   by_cases h:a=k
   ·subst h
    simp[List.findIdx?_cons]
   ·have h1:((k:Int)==(a:Int))=false:=by simp;omega
    have h2:(a==k)=false:=by simp[h]
    simp only[h1,List.findIdx?_cons,h2,Bool.false_eq_true,if_false]
    rw[ih]
    cases l.findIdx? (fun p=>p.1==k)with
    |none=>rfl
    |some p=>simp;omega

theorem cY {P:Program}{kt:TypeId}(hk:P.underlying kt=some (.int .i64)) (e:Bool) (k:Nat) (l:List (Nat × Nat)):F0 P e kt (.int .i64 (k:Int)) (ents l 0)=some (l.findIdx? (fun p=>p.1==k)):=by
 have h1:(Bl P (Instr.checkKey e 10000 kt (.int .i64 (k:Int)))).isSome=true:=by
  rw[show(10000:Nat)=9999+1 from rfl]
  unfold Instr.checkKey
  simp only[BB,Dn hk,Option.bind_some]
  rfl
 have h2:Bl P (Instr.findKey kt (.int .i64 (k:Int)) (bare (ents l 0)))=some ((l.findIdx? (fun p=>p.1==k)).map fun p=>(p,undef)):=by
  unfold Instr.findKey
  simp only[BB,Dn hk,Option.bind_some,Vh k l 0 0]
  rfl
 unfold F0
 rw[if_pos ⟨rfl,Vk l 0,h1⟩,h2]
 cases l.findIdx? (fun p=>p.1==k)<;>rfl

theorem SE {P:Program}{lo Br r a b:Nat}{ts:Ts}{h:H}{kt:TypeId}{m x y:BH}{l:List (Nat × Nat)}(hk:P.underlying kt=some (.int .i64)) (hm:ev ts m= .map (some r)) (hx:ev ts x= .int .i64 (a:Int)) (hy:ev ts y= .int .i64 (b:Int)) (hlo:lo<=r)
 (hg:h.get r=some (.map (ents l 0) l.length)):C6 P lo Br ts h (.Ig kt m x y)=some (undef,h.put r (.map (ents (mz l a b) 0) (mz l a b).length)):=by
 simp only[C6,hm,hx,hy,Pm,if_pos hlo,hg,cY hk,Option.bind_some,mz]
 cases hf:l.findIdx? (fun p=>p.1==a)with
 | none=>
   simp only[Oy,Option.map_some,Option.some.injEq,Prod.mk.injEq,true_and]
   rw[<-Y8 l 0 a b]
   simp
 | some i=>
   obtain⟨hi,hp, -⟩:=List.findIdx?_eq_some_iff_getElem.1 hf
   simp only[Oy,Y7,List.getElem?_eq_getElem hi,Option.map_some,Option.bind_some]
   have hb:Instr.sameBits 10000 (.int .i64 (l[i].1:Int)) (.int .i64 (a:Int))=true:=by
    have:l[i].1=a:=by simpa using hp
    rw[this]
    simp[Instr.sameBits]
   rw[if_pos hb]
   have:=Y6 l 0 i a b
   simp only[Nat.zero_add]at this⊢
   rw[this]
   simp

end AE

/- Maps from numbers to numbers, of which entries may have been deleted; ranges over them. -/
set_option linter.unusedVariables false
namespace AE
open Go Go.RowKit

structure E3 where
 k:Nat
 v:Nat
 b:Nat
def E3.ent (e:E3):MapEntry:=⟨.int .i64 e.k,.int .i64 e.v,e.b⟩
def Ii:List (Nat × Nat)->Nat->List E3
 |[],_=>[]
 |(k,v)::l,i=>⟨k,v,i⟩::Ii l (i+1)
theorem Vj:∀(l:List (Nat × Nat)) (i:Nat),ents l i=(Ii l i).map E3.ent
 |[],_=>rfl
 | (k,v)::l,i=>by
   show _::ents l (i+1)=_::(Ii l (i+1)).map E3.ent
   rw[Vj l (i+1)];rfl
theorem Rv:∀(l:List (Nat × Nat)) (i:Nat),(Ii l i).length=l.length
 |[],_=>rfl
 |(k,v)::l,i=>by simp[Ii,Rv l]
theorem Kc {e:E3}:∀(l:List (Nat × Nat)) (i:Nat),e∈Ii l i->(e.k,e.v)∈l/\i<=e.b/\e.b<i+l.length
 |[],_,h=>absurd h (by simp[Ii])
 | (k,v)::l,i,h=>by
   rcases List.mem_cons.1 h with rfl|h
   ·exact⟨by simp,Nat.le_refl _,by simp⟩
   ·obtain⟨a,b,c⟩:=Kc l (i+1) h
    exact⟨by simp[a],by omega,by simp only[List.length_cons];omega⟩
theorem dz:∀(l:List (Nat × Nat)) (i:Nat),(Ii l i).map (fun e=>(e.k,e.v))=l
 |[],_=>rfl
 |(k,v)::l,i=>by simp[Ii,dz l]
theorem IJ:∀(l:List (Nat × Nat)) (i:Nat),((Ii l i).map E3.b).Nodup
 |[],_=>by simp[Ii]
 | (k,v)::l,i=>by
   simp only[Ii,List.map_cons,List.nodup_cons]
   refine⟨fun h=>?_,IJ l (i+1)⟩
   obtain⟨e,he,hb⟩:=List.mem_map.1 h
   have:=(Kc l (i+1) he).2.1
   omega

theorem o8 (es:List E3):Je (es.map E3.ent)=true:=by
 simp only[Je,List.all_map,List.all_eq_true]
 intro e _
 rfl
theorem vX (k:Nat):∀(es:List E3) (j:Nat),Instr.findNow (.int .i64) (.int .i64 (k:Int)) (bare (es.map E3.ent)) j=some ((es.findIdx? (fun e=>e.k==k)).map fun p=>(p+j,undef))
 |[],_=>rfl
 | e::l,j=>by
   have ih:=vX k l (j+1)
   simp only[bare,List.map_cons,E3.ent,Instr.findNow,Instr.sameNow,if_true]at ih⊢
   by_cases h:e.k=k
   ·subst h
    simp[List.findIdx?_cons]
   ·have h1:((k:Int)==(e.k:Int))=false:=by simp;omega
    have h2:(e.k==k)=false:=by simp[h]
    simp only[h1,List.findIdx?_cons,h2,Bool.false_eq_true,if_false]
    rw[ih]
    cases l.findIdx? (fun e=>e.k==k)with
    |none=>rfl
    |some p=>simp;omega
theorem qC {P:Program}{kt:TypeId}(hk:P.underlying kt=some (.int .i64)) (e:Bool) (k:Nat) (es:List E3):F0 P e kt (.int .i64 (k:Int)) (es.map E3.ent)=some (es.findIdx? (fun e=>e.k==k)):=by
 have h1:(Bl P (Instr.checkKey e 10000 kt (.int .i64 (k:Int)))).isSome=true:=by
  rw[show(10000:Nat)=9999+1 from rfl]
  unfold Instr.checkKey
  simp only[BB,Dn hk,Option.bind_some]
  rfl
 have h2:Bl P (Instr.findKey kt (.int .i64 (k:Int)) (bare (es.map E3.ent)))=some ((es.findIdx? (fun e=>e.k==k)).map fun p=>(p,undef)):=by
  unfold Instr.findKey
  simp only[BB,Dn hk,Option.bind_some,vX k es 0]
  rfl
 unfold F0
 rw[if_pos ⟨rfl,o8 es,h1⟩,h2]
 cases es.findIdx? (fun e=>e.k==k)<;>rfl
theorem fF {es:List E3}{e:E3}(he:e∈es) (hn:(es.map E3.k).Nodup):∃i,es.findIdx? (fun x=>x.k==e.k)=some i/\es[i]? =some e/\es.eraseIdx i=es.filter (fun x=>!(x.k==e.k)):=by
 induction es with
 |nil=>exact absurd he (by simp)
 | cons y es ih=>
   simp only[List.map_cons,List.nodup_cons]at hn
   rcases List.mem_cons.1 he with rfl|h
   ·refine⟨0,by simp[List.findIdx?_cons],rfl,?_⟩
    simp only[List.eraseIdx_cons_zero,List.filter_cons,beq_self_eq_true,Bool.not_true,Bool.false_eq_true,if_false]
    refine(List.filter_eq_self.2 fun x hx=>?_).symm
    have:x.k≠e.k:=fun h=>hn.1 (List.mem_map.2 ⟨x,hx,h⟩)
    simp[this]
   ·obtain⟨i,h1,h2,h3⟩:=ih h hn.2
    have hne:y.k≠e.k:=fun h'=>hn.1 (List.mem_map.2 ⟨e,h,h'.symm⟩)
    have hb:(y.k==e.k)=false:=by simp[hne]
    refine⟨i+1,by simp[List.findIdx?_cons,hb,h1],by simpa using h2,?_⟩
    simp only[List.eraseIdx_cons_succ,List.filter_cons,hb,Bool.not_false,if_true,h3]
theorem UN {α β:Type}(f:α->β):∀(l:List α) (i:Nat),(l.map f).eraseIdx i=(l.eraseIdx i).map f
 |[],_=>by simp
 |x::l,0=>by simp
 |x::l,i+1=>by simp[UN f l i]
section
variable {P:Program}{lo Br r a:Nat}{ts:Ts}{h:H}{kt:TypeId}{m x:BH}{es:List E3}{c:Nat}{e:E3}
theorem uy (hk:P.underlying kt=some (.int .i64)) (hm:ev ts m= .map (some r)) (hx:ev ts x= .int .i64 (e.k:Int)) (hlo:lo<=r) (hg:h.get r=some (.map (es.map E3.ent) c)) (he:e∈es) (hn:(es.map E3.k).Nodup):
 C6 P lo Br ts h (.delete kt m x)=some (.tuple #[],h.put r (.map ((es.filter fun y=>!(y.k==e.k)).map E3.ent) c)):=by
 obtain⟨i,h1,h2,h3⟩:=fF he hn
 simp only[C6,hm,hx,Jv,if_pos hlo,hg,qC hk,h1,Option.map_some,<-h3]
 congr 3
 exact congrArg (fun z=>BQ.map z c) (UN _ _ _)
theorem eU (hk:P.underlying kt=some (.int .i64)) (hm:ev ts m= .map (some r)) (hx:ev ts x= .int .i64 (e.k:Int)) (hg:h.get r=some (.map (es.map E3.ent) c)) (he:e∈es) (hn:(es.map E3.k).Nodup) {z:Value}:
 C6 P lo Br ts h (.lookup kt z false m x)=some (.int .i64 (e.v:Int),h):=by
 obtain⟨i,h1,h2,h3⟩:=fF he hn
 simp only[C6,hm,hx,DV,hg,qC hk,h1,Option.bind_some,Na,List.getElem?_map,h2,Option.map_some,keep]
 rfl
theorem o7 {since:Nat}{seen:List Nat}{mr:Nat}(hx:ev ts x= .pointer (some ⟨r,0,none⟩)) (hg:h.get r=some (.iter mr since (seen++[e.b]) c)) (hgm:h.get mr=some (.map (es.map E3.ent) c)) (he:e∈es) (hn:(es.map E3.b).Nodup):
 C6 P lo Br ts h (.entry x)=some (.tuple ⟨[.int .i64 (e.k:Int),.int .i64 (e.v:Int)]⟩,h):=by
 have hf:(es.map E3.ent).find? (fun y=>y.born==e.b)=some e.ent:=by
  clear hg hgm
  induction es with
  |nil=>exact absurd he (by simp)
  | cons y l ih=>
    simp only[List.map_cons,List.nodup_cons]at hn
    rw[List.map_cons,List.find?_cons]
    rcases List.mem_cons.1 he with rfl|h
    ·simp[E3.ent]
    ·have hne:y.b≠e.b:=fun h'=>hn.1 (List.mem_map.2 ⟨e,h,h'.symm⟩)
     have:((E3.ent y).born==e.b)=false:=by simpa[E3.ent]using hne
     rw[this]
     exact ih h hn.2
 simp only[C6,hx,RD,hg,Option.bind_some,fJ,List.getLast?_append,List.getLast?_singleton,Option.some_or,hgm,if_true,fH,hf,Option.map_some,keep]
 rfl
theorem eP {es:List MapEntry}(hm:ev ts m= .map (some r)) (hg:h.get r=some (.map es c)):C6 P lo Br ts h (.GI m)=some (.pointer (some ⟨Br,0,none⟩),h.put Br (.iter r c [] c)):=by
 simp only[C6,hm,Kw,hg]
theorem Xz {Q:Exit->Ts->H->Prop}{a b mr since c0 clock:Nat}{seen:List Nat}(e1:ev ts x= .pointer (some ⟨r,0,none⟩)) (hlo:lo<=r) (hrm:r≠mr) (hg:h.get r=some (.iter mr since seen c0)) (hgm:h.get mr=some (.map (es.map E3.ent) clock)) (hold:∀e∈es,e.b<since) (hsc:since<=c0)
 (h0:(∀e∈es,e.b∈seen)->Q .normal (QN (QN ts a (.tuple ⟨[.bool false]⟩)) b (.bool false)) h)
 (h1:∀e∈es,e.b∉seen->Q .normal (QN (QN ts a (.tuple ⟨[.bool true,.int .i64 (e.k:Int),.int .i64 (e.v:Int)]⟩)) b (.bool true)) (h.put r (.iter mr since (seen++[e.b]) clock))):Gy P lo (.next x a b) Q ts h:=by
 refine⟨r,mr,since,seen,c0,es.map E3.ent,clock,e1,hlo,hrm,hg,hgm,fun e he=>?_,hsc,fun hz=>?_,fun e he hn=>?_⟩
 ·obtain⟨y,hy,rfl⟩:=List.mem_map.1 he
  exact hold y hy
 ·have:=h0 fun e he=>hz e.ent (List.mem_map.2 ⟨e,he,rfl⟩)
  rw[Ik,Ik]at this
  exact this
 ·obtain⟨y,hy,rfl⟩:=List.mem_map.1 he
  have:=h1 y hy hn
  rw[Ik,Ik]at this
  exact this
end
end AE

/- A call of a function of the library that has no code here: the copy of a map. -/
set_option linter.unusedVariables false
namespace AE
open Go

theorem Qz {P:Program}{g:FuncId}(hc:∀(as:Array Value) (w:World),(callFunc g as).run P w=((Extern.MapsClone.clone as).run P w).andThen fun v w'=>.ok (.value v) w') {lo r:Nat}{h:H}{t:TypeId}{es:List MapEntry}{c:Nat}
 (hlo:lo<=h.next) (hg:h.get r=some (.map es c)):
 CX P (.func (.func g) ⟨[]⟩ ⟨[]⟩) lo h [.iface t (.map (some r))] (.iface t (.map (some h.next))) ((h.bump 1).put h.next (.map es c)):=by
 refine⟨(Quiet.bump 1).trans (Quiet.put hlo (by simp[H.bump])),fun o c' ro a I w K Q ho ef TS k iF Ub hK=>?_⟩
 simp only[ren,Gs,AX]at ef TS
 unfold Uk at ef
 simp only[C5,In,and_true]at Ub
 obtain⟨b0,hb0⟩:=Ub
 obtain⟨ie,b,hat,hbase,hheap⟩:=k.rows _ _ hg ⟨_,_,hb0⟩
 have hblk:I.blk r=b:=by simp[AZ.blk,hat]
 rw[hblk]at TS
 have hargs:c'.args.map a.eval= #[.iface t (.map (some b))]:=by
  apply Array.ext'
  simpa using TS
 have hnew:¬I.dom h.next:=fun d=>Nat.lt_irrefl _ (k.lt _ d)
 have kb:=k.bump 1
 have hcl:(Extern.MapsClone.clone #[.iface t (.map (some b))]).run P w= .ok (.iface t (.map (some w.heap.size))) (w.alloc (.map ⟨es.map (Dl I)⟩ c)):=by
  have e:Extern.MapsClone.clone #[.iface t (.map (some b))]=(getObj b).bind (fun o=>match o with
   |.map entries clock=>(newObj (.map entries clock)).bind fun n=>.pure (.iface t (.map (some n)))
   |_=>stuck "maps.clone: a map expected"):=rfl
  rw[e]
  show((getObj b >>= _:Sem Value)).run P w=_
  rw[Sem.run_bind,EK hheap]
  rfl
 have hrun:(execOp a.eval o).run P w= .ok (.value (.iface t (.map (some w.heap.size)))) (w.alloc (.map ⟨es.map (Dl I)⟩ c)):=by
  simp[execOp,ho,ef,Deferred.ofValue,invoke,hc,hargs,hcl]
 have hnx:h.next<(h.bump 1).next:=Nat.lt_succ_self _
 let J:=I.plus h.next none w.heap.size 0
 have hle:Le I J:=Le.plus (FJ hnew none)
 have hes:es.map (Dl J)=es.map (Dl I):=List.map_congr_left fun e he=>((ie e he).le hle).2
 have hrow:Ci J h.next (w.alloc (.map ⟨es.map (Dl I)⟩ c)) (.map es c):=by
  refine⟨fun e he=>((ie e he).le hle).1,w.heap.size,AZ.BD ..,?_,?_⟩
  ·exact k.base
  ·rw[hes];exact heap_alloc _ _
 refine IP (fun c e=>by rw[ho]at e;cases e) hrun (.inl rfl) ?_
 have S4:ren J (.iface t (.map (some h.next)))= .iface t (.map (some w.heap.size)):=by
  simp[ren,AZ.blk,J,AZ.BD]
 have hW:Dk I J lo h.next ((h.bump 1).put h.next (.map es c)) w (w.alloc (.map ⟨es.map (Dl I)⟩ c)):=
  ⟨CK.plus (FJ hnew _) (.inl (Nat.le_refl _)),fun r d=>(AZ.C8 d).imp id (fun e=>by omega),AZ.GF hlo,kb.new hnew hnx none 0 _ hrow,Ext.alloc I lo w _⟩
 have:=hK J _ hW (by simp only[In,InR];exact⟨_,AZ.BD ..⟩)
 rw[S4]at this
 exact this

end AE

/- Calls that may come to one of many ends, in code that is walked so. -/
namespace AE
open Go Go.RowKit
set_option linter.unusedVariables false

structure N3 (P:Program) (f:FuncId) (lo:Nat) (h:H) (args:List Value) (R:Value->H->Prop):Prop where
 enters:∀(as:Array Value) (w:World),(callFunc f as).run P w= .ok (.enter f as) w
 calls:∀I w,Rel I h w->C5 I args->Calls P f ⟨AX I args⟩ w fun e w'=>∃v h' J,R v h'/\Quiet lo h h'/\Dk I J lo h.next h' w w'/\In J v/\e= .returned (ren J v)
theorem AF.afd {P:Program}{f:FuncId}{lo:Nat}{h h':H}{args:List Value}{v:Value}{R:Value->H->Prop}(a:AF P f lo h args v h') (r:R v h'):N3 P f lo h args R:=
 ⟨a.enters,fun I w k i=>(a.calls I w k i).mono fun _ _ ⟨J,W,iv,e⟩=>⟨v,h',J,r,a.quiet,W,iv,e⟩⟩
theorem N3.mono {P:Program}{f:FuncId}{lo lo':Nat}{h:H}{args:List Value}{R R':Value->H->Prop}(a:N3 P f lo h args R) (hl:lo'<=lo) (hr:∀v h',R v h'->R' v h'):N3 P f lo' h args R':=
 ⟨a.enters,fun I w k i=>(a.calls I w k i).mono fun _ _ ⟨v,h',J,r,q,W,iv,e⟩=>⟨v,h',J,hr v h' r,q.mono hl,W.mono hl,iv,e⟩⟩

structure Mn (P:Program) (fv:Value) (lo:Nat) (h:H) (args:List Value) (R:Value->H->Prop):Prop where
 run:∀(o:Oper) (c:Call) (ro:Option Nat) (a:Act) (I:AZ) (w:World) (K:Act->World->Prop) (Q:Exit->Act->World->Prop),o.op= .call c->Uk a.eval o c (ren I fv)->
  c.args.toList.map a.eval=AX I args->Rel I h w->In I fv->C5 I args->(∀v h' J w',R v h'->Quiet lo h h'->Dk I J lo h.next h' w w'->In J v->K (a.put o.dst (ren J v)) w')->o.wpIn (WR ro) 0 P a w K Q
theorem Mn.mono {P:Program}{fv:Value}{lo lo':Nat}{h:H}{args:List Value}{R R':Value->H->Prop}(a:Mn P fv lo h args R) (hl:lo'<=lo) (hr:∀v h',R v h'->R' v h'):Mn P fv lo' h args R':=
 ⟨fun o c ro b I w K Q h1 h2 h4 h5 h6 h7 h8=>a.run o c ro b I w K Q h1 h2 h4 h5 h6 h7 fun v h' J w' r q W i=>h8 v h' J w' (hr v h' r) (q.mono hl) (W.mono hl) i⟩
theorem N3.Ack {P:Program}{lo:Nat}{g:FuncId}{first CL args:List Value}{h:H}{R:Value->H->Prop}(hcall:N3 P g lo h (first++args++CL) R):Mn P (.func (.func g) ⟨first⟩ ⟨CL⟩) lo h args R:=by
 refine⟨fun o c ro a I w K Q ho ef TS k iF Ub hK=>?_⟩
 simp only[ren,Gs,In,Ku,true_and]at ef iF
 refine Ur (fun c' e=>by rw[ho]at e;simp at e) (Vi ho ef hcall.enters) ?_
 have bP:((⟨AX I first⟩:Array Value)++c.args.map a.eval++⟨AX I CL⟩)=⟨AX I (first++args++CL)⟩:=by
  apply Array.ext'
  simp[CY,TS]
 rw[bP]
 refine(hcall.calls I w k (by rw[Df,Df];exact⟨⟨iF.1,Ub⟩,iF.2⟩)).mono ?_
 rintro e w1 ⟨v,h',J,r,q,BZ,hin,rfl⟩
 exact⟨_,rfl,hK v h' J w1 r q BZ hin⟩

def JX (P:Program) (lo:Nat) (base:Nat):Nat->List A7->(Ts->H->Prop)->Ts->H->Prop
 |_,[],K,ts,h=>K ts h
 | i,o::rest,K,ts,h=>
   if CN ts o.guard=true then
    match o.ins with
    |.op ao=>∃v h',C6 P lo (base+i) ts h ao=some (v,h')/\JX P lo base (i+1) rest K (G0 ts v o.dst) h'
    |.call f args=>Mn P (ev ts f) lo h (args.map (ev ts)) fun v h'=>JX P lo base (i+1) rest K (G0 ts v o.dst) h'
   else JX P lo base (i+1) rest K (G0 ts undef o.dst) h

section
variable {P:Program}{ro:Option Nat}{n lo base:Nat}
theorem Lt {ops:Array Oper}{xs:List A7}{K:Ts->H->Prop}(hx:DO P n ops ops.toList=some xs) (hlo:lo<=base):∀(m i:Nat),i+m=xs.length->∀(ts:Ts) (h:H),base+xs.length<=h.next->JX P lo base i (xs.drop i) K ts h->
 ∀ro I w a,Rel I h w->Cu I n ts a.tmps->(∀j,i<=j->j<xs.length->¬I.dom (base+j))->∀Q:Exit->Act->World->Prop,
  (∀ts' h' J w' a',K ts' h'->Quiet lo h h'->Dk I J lo base h' w w'->Cu J n ts' a'.tmps->a'.defers=a.defers->Q .normal a' w')->wpOpsIn (WR ro) 0 P ops Q (List.range' i m) a w
 | 0,i,hi,ts,h,hn,hr=>by
   rw[List.drop_of_length_le (by omega)]at hr
   intro ro I w a k t _ Q hQ
   simp only[List.range'_zero,wpOpsIn]
   exact hQ ts h I w a hr (Quiet.refl _ _) (Dk.refl k) t rfl
 | m + 1,i,hi,ts,h,hn,hr=>by
   obtain⟨hlen,hget⟩:=C0 hx
   have hil:i<xs.length:=by omega
   have hio:i<ops.toList.length:=by omega
   obtain⟨x,hxi,hxo⟩:=hget i ops.toList[i] (List.getElem?_eq_getElem hio)
   have hoi:ops[i]? =some ops.toList[i]:=by rw[<-Array.getElem?_toList];exact List.getElem?_eq_getElem hio
   generalize ops.toList[i]=o at hxo hoi
   rw[List.drop_eq_getElem_cons hil]at hr
   have hxe:xs[i]=x:=by rw[List.getElem?_eq_getElem hil]at hxi;simpa using hxi
   rw[hxe]at hr
   simp only[O9,Option.bind_eq_some_iff]at hxo
   obtain⟨gd,hgd,ins,hins,hxo⟩:=hxo
   split at hxo
   ·rename_i hok
    simp only[Bool.and_eq_true]at hok
    simp only[Option.some.injEq]at hxo
    subst hxo
    simp only[JX]at hr
    have hdef:=Ji hins
    have hm:i+1+m=xs.length:=by omega
    split at hr
    ·rename_i hw
     cases ins with
     | op ao=>
       simp only at hr
       obtain⟨v,h1,ha,hr⟩:=hr
       have hnx:=Zv ha
       have hq:=Qb ha (Br:=base+i) (by omega) (by omega)
       have hrest:=Lt hx hlo m (i+1) hm _ _ (by rw[hnx];exact hn) hr
       intro ro I w a k t hfr Q hQ
       obtain⟨J,w1,nx,⟨hg,hdom,hold⟩,hrel,hin,hext,hrun,yE⟩:=ah t.ev hins hok.1 k (hfr i (Nat.le_refl i) hil) (by omega) (by omega) ha
       rw[List.range'_succ]
       simp only[wpOpsIn,hoi,Gp t hgd,hw,if_true]
       refine IP (v:=ren J v) hdef hrun (yE.imp id (fun e=>⟨e.1,by rw[e.2];exact(Dr J).1⟩)) ?_
       refine hrest ro J w1 _ hrel ((t.le hg.le).put hin hok.2) (fun j hj hjl d=>?_) Q (fun ts' h' J' w' a' hK hq' hw' t' hd'=>?_)
       ·rcases hdom _ d with d|d
        ·exact hfr j (by omega) hjl d
        ·omega
       ·refine hQ ts' h' J' w' a' hK (hq.trans hq') ?_ t' (hd'.trans (Act.Dt a o.dst (ren J v)))
        exact Dk.trans ⟨hg,fun r d=>(hdom r d).imp id (fun e=>by omega),hold,hrel,hext⟩ hw' (Nat.le_refl _)
     | call f args=>
       simp only at hr
       intro ro I w a k t hfr Q hQ
       obtain⟨c,ho,hcf,hcas⟩:=MN hins
       obtain⟨ef,iF⟩:=hcf I ts _ t.ev
       obtain⟨TS,Ub⟩:=Kq t.ev hcas
       rw[List.range'_succ]
       simp only[wpOpsIn,hoi,Gp t hgd,hw,if_true]
       refine hr.run o c ro a I w _ Q ho ef TS k iF Ub fun v h1 J w1 hr hq BZ hin=>?_
       have hrest:=Lt hx hlo m (i+1) hm _ _ (Nat.le_trans hn hq.next) hr
       refine hrest ro J w1 _ BZ.rel ((t.le BZ.grows.le).put hin hok.2) (fun j hj hjl d=>?_) Q (fun ts' h' J' w' a' hK hq' hw' t' hd'=>?_)
       ·rcases BZ.dom _ d with d|d
        ·exact hfr j (by omega) hjl d
        ·omega
       ·refine hQ ts' h' J' w' a' hK (hq.trans hq') ?_ t' (hd'.trans (Act.Dt a o.dst (ren J v)))
        exact Dk.trans ⟨BZ.grows,fun r d=>(BZ.dom r d).imp id (fun e=>by omega),BZ.old,BZ.rel,BZ.ext⟩ hw' (Nat.le_refl _)
    ·rename_i hw
     have hrest:=Lt hx hlo m (i+1) hm _ _ hn hr
     intro ro I w a k t hfr Q hQ
     rw[List.range'_succ]
     have hw':CN ts gd=false:=by simpa using hw
     simp only[wpOpsIn,hoi,Gp t hgd,hw',Bool.false_eq_true,if_false]
     refine⟨fun _ _=>trivial,?_⟩
     have hu:=(Dr I)
     have tp:=t.put (v:=undef) hu.2 hok.2
     rw[hu.1]at tp
     exact hrest ro I w _ k tp (fun j hj hjl=>hfr j (by omega) hjl) Q (fun ts' h' J' w' a' hK hq' hw' t' hd'=>hQ ts' h' J' w' a' hK hq' hw' t' (hd'.trans (Act.Dt a o.dst undef)))
   ·simp at hxo

theorem WD.reg {tp:Bool}{id:Nat}{ops:Array Oper}{xs:List A7}{Q:Exit->Ts->H->Prop}{ts:Ts}{h:H}(hx:DO P n ops ops.toList=some xs) (hlo:lo<=h.next) (hr:JX P lo h.next 0 xs (Q .normal) ts (h.bump xs.length)):
 WD (TC tp P (.region id ops false)) n lo Q ts h:=by
 have hlen:=(C0 hx).1
 have hrest:=Lt hx hlo xs.length 0 (by omega) ts (h.bump xs.length) (Nat.le_refl _) (by simpa using hr)
 intro ro I w a k t _
 refine wpIn_region ?_
 have:=hrest ro I w a (k.bump _) t (fun j _ _ d=>by have:=k.lt _ d;omega) (fun e' a' w'=>∃ts' h' J,Q e' ts' h'/\Quiet lo h h'/\Dk I J lo h.next h' w w'/\Cu J n ts' a'.tmps/\∃ms,a'.defers=ms++a.defers/\Marks J w w' ms)
  (fun ts' h' J w' a' hK hq hw t' hd=>⟨ts',h',J,hK,⟨Nat.le_trans (Nat.le_add_right _ _) hq.next,hq.same,fun hc=>hq.clean fun r hr=>hc r (Nat.le_trans (Nat.le_add_right _ _) hr)⟩,hw,t',[],hd,Marks.nil _ _ _⟩)
 rw[List.range_eq_range',show ops.size=xs.length by rw[hlen];simp]
 exact this
end
theorem WD.range {P:Program}{n lo:Nat}{Q:Exit->Ts->H->Prop}{ts:Ts}{h:H}{f:Operand}{f':BH}{g:FuncId}{first CL:List Value}{ps:List Nat}{Ed body:Code}(hf:Bw f=some f') (hv:ev ts f'= .func (.func g) ⟨first⟩ ⟨CL⟩) (hlo:lo<=h.next)
 (ha:N3 P g lo (h.enter (EX n ts ps Ed body)) (first++[.func (.yield h.next) ⟨[]⟩ ⟨[]⟩]++CL) fun v h'=>∃L,h'.get h.next=some (.loop L)/\L.state≠ .busy/\Q (FU L.pend) ts (h'.put h.next .gone)):
 WD (TC true P (.rangeFunc f ⟨ps⟩ Ed body)) n lo Q ts h:=by
 intro ro I w a k t htp
 have hro:=htp rfl
 subst hro
 refine wpIn_rangeFunc fun fn _=>?_
 let w0:=w.alloc (.deferred (some []))
 let ob:Obj:=.loop {state:=.ready,pending:=none,fn:=fn,tmps:=a.tmps,params:=⟨ps⟩,assign:=Ed,body:=body,defers:=w.heap.size}
 have hsz0:w0.heap.size=w.heap.size+1:=by simp[w0]
 have k0:Rel I h w0:=k.aside _
 have hnd:¬I.dom h.next:=fun d=>by have:=k.lt _ d;omega
 have hle:Le I (I.plus h.next none w0.heap.size 0):=Le.plus (FJ hnd none)
 have k1:Rel (I.plus h.next none w0.heap.size 0) (h.enter (EX n ts ps Ed body)) (w0.alloc ob):=by
  refine(k0.bump 1).new hnd (by simp[H.bump]) none 0 ob ?_
  exact⟨w0.heap.size,a.tmps,w.heap.size,fn,AZ.BD ..,k0.base,t.le hle,by rw[heap_alloc];rfl⟩
 obtain⟨ef,iF⟩:=t.ev f f' hf
 rw[hv]at ef iF
 obtain⟨Agy,Ad9⟩:=hle.ren _ iF
 simp only[ren,Gs]at ef
 have hev:∀x:Operand,({a with defers:=[({target:=.collected w.heap.size,args:= #[]}:Deferred)]++a.defers}:Act).eval x=a.eval x:=fun x=>by cases x<;>rfl
 refine⟨w0.heap.size,[{target:=.collected w.heap.size,args:= #[]}],w0.alloc ob,{target:=.fn (.func g) ⟨AX I CL⟩,args:=⟨AX I first⟩++ #[.func (.yield w0.heap.size) #[] #[]]},w0.alloc ob,g,⟨AX (I.plus h.next none w0.heap.size 0) (first++[.func (.yield h.next) ⟨[]⟩ ⟨[]⟩]++CL)⟩,w0.alloc ob,?_,?_,fun _ _=>trivial,?_,fun _=>by simp[WR,Fence.wide]at*,?_⟩
 ·simp[Instr.enterLoop,WR,Fence.wide,w0,ob]
 ·have yL:∀v,a.eval (.const v)=v:=fun v=>rfl
  simp[resolve,rangeCall,ef,yL,Deferred.ofValue]
 ·have hargs:((⟨AX I first⟩:Array Value)++ #[.func (.yield w0.heap.size) #[] #[]]++⟨AX I CL⟩)=⟨AX (I.plus h.next none w0.heap.size 0) (first++[.func (.yield h.next) ⟨[]⟩ ⟨[]⟩]++CL)⟩:=by
   simp only[In,Ku,true_and]at iF
   apply Array.ext'
   simp[CY,(hle.AX _ iF.1).1,(hle.AX _ iF.2).1,AX,ren,Gs,AZ.blk,AZ.BD]
  simp only[invoke]
  rw[hargs]
  exact ha.enters _ _
 ·refine NQ ((ha.calls _ _ k1 ?_).mono ?_)
  ·simp only[In,Ku,true_and]at iF
   rw[Df,Df]
   exact⟨⟨(hle.AX _ iF.1).2,by simp only[C5,In,Ku,and_true];exact⟨_,AZ.BD ..⟩⟩,(hle.AX _ iF.2).2⟩
  ·rintro e w3 ⟨v,h',J,⟨L,hL,hs,q⟩,hqa,W,iv,rfl⟩
   have hq:=(Quiet.enter hlo (EX n ts ps Ed body)).trans hqa
   have hnx:h.next<h'.next:=Nat.lt_of_lt_of_le (by simp[H.enter,H.bump,H.put]) hqa.next
   have hat:J.at_ h.next none=some (w0.heap.size,0):=W.grows.le.at_ _ _ _ (AZ.BD ..)
   obtain⟨tmps,db,fn',e2,e3,e4⟩:=GJ W.rel hL hat
   have De:=But.set w3 w0.heap.size (.loop {state:=.exhausted,pending:=EG L.pend,fn:=fn',tmps,params:=⟨L.params⟩,assign:=L.Ed,body:=L.body,defers:=db})
   refine⟨EG L.pend,{w3 with heap:=w3.heap.setIfInBounds w0.heap.size (.loop {state:=.exhausted,pending:=EG L.pend,fn:=fn',tmps,params:=⟨L.params⟩,assign:=L.Ed,body:=L.body,defers:=db})},?_,?_⟩
   ·simp[Instr.endLoop,Instr.getLoop,getObj,setObj,Sem.run,e4]
    cases hst:L.state<;>first|exact absurd hst hs|simp
   ·refine eE (Q:=fun e' a' w'=>∃ts' h' J,Q e' ts' h'/\Quiet lo h h'/\Dk I J lo h.next h' w w'/\Cu J n ts' a'.tmps/\∃ms,a'.defers=ms++a.defers/\Marks J w w' ms) (ro:=none) ⟨ts,_,J,q,hq.trans (Quiet.put hlo hnx),?_,?_,[{target:=.collected w.heap.size,args:= #[]}],rfl,?_⟩
    ·have hrel:Rel J (h'.put h.next .gone) _:=W.rel.store e2 ⟨_,_,hat⟩ De trivial
     have hold:∀r s p,r<lo->J.at_ r s=some p->I.at_ r s=some p:=fun r s p hr e=>by
      have:=W.old r s p hr e
      rwa [AZ.BA (by omega)]at this
     have hgr:CK I J w:=by
      refine⟨hle.trans W.grows.le,fun r s b d e=>?_⟩
      have YP:∀r s b d,(I.plus h.next none w0.heap.size 0).at_ r s=some (b,d)->I.at_ r s=some (b,d)\/w.heap.size<=b:=fun r s b d e=>by
       by_cases hr:r=h.next/\s=none
       ·obtain⟨rfl,rfl⟩:=hr
        rw[AZ.BD]at e
        simp only[Option.some.injEq,Prod.mk.injEq]at e
        omega
       ·rw[AZ.BA hr]at e
        exact .inl e
      rcases W.grows.new r s b d e with e|e|⟨s',d',e⟩
      ·exact(YP _ _ _ _ e).imp id .inl
      ·simp only[World.alloc]at e
       have:w0.heap.size<=b:=by simp at e;omega
       exact .inr (.inl (by omega))
      ·rcases YP _ _ _ _ e with e|e
       ·exact .inr (.inr ⟨_,_,e⟩)
       ·exact .inr (.inl e)
     refine⟨hgr,fun r d=>?_,hold,hrel,?_⟩
     ·rcases W.dom r d with d|d
      ·rcases AZ.C8 d with d|rfl
       ·exact .inl d
       ·exact .inr (Nat.le_refl _)
      ·exact .inr (by simp[H.enter,H.bump,H.put]at d;omega)
     ·have x1:=(Ext.alloc I lo w (.deferred (some [])))
      have x2:=x1.trans (CK.refl I w) (Ext.alloc I lo w0 ob)
      refine⟨?_,?_,?_,?_,fun b hb hx=>?_⟩
      ·rw[De.os,W.ext.os,x2.os]
      ·rw[De.tape,W.ext.tape,x2.tape]
      ·rw[De.output,W.ext.output,x2.output]
      ·rw[De.size];exact Nat.le_trans x2.size W.ext.size
      ·rw[De.block b (by omega),W.ext.block b (by have:=x2.size;omega) (fun r s d e hbase=>?_),x2.block b hb hx]
       by_cases hr:r=h.next/\s=none
       ·obtain⟨rfl,rfl⟩:=hr
        rw[AZ.BD]at e
        simp only[Option.some.injEq,Prod.mk.injEq]at e
        omega
       ·rw[AZ.BA hr]at e
        exact hx r s d e hbase
    ·exact t.le (hle.trans W.grows.le)
    ·have hb0:(w0.alloc ob).heap[w.heap.size]? =some (.deferred (some [])):=by
      rw[heap_alloc_old w0 ob (by omega)];exact heap_alloc w _
     have hout:∀r s d,(I.plus h.next none w0.heap.size 0).at_ r s≠some (w.heap.size,d):=fun r s d e=>by
      by_cases hr:r=h.next/\s=none
      ·obtain⟨rfl,rfl⟩:=hr
       rw[AZ.BD]at e
       simp only[Option.some.injEq,Prod.mk.injEq]at e
       omega
      ·rw[AZ.BA hr]at e
       have:=k.size _ _ _ _ e
       omega
     have hsz1:(w0.alloc ob).heap.size=w.heap.size+2:=by simp[hsz0]
     refine⟨fun m hm=>?_,by simp⟩
     simp only[List.mem_singleton]at hm
     subst hm
     refine⟨w.heap.size,rfl,Nat.le_refl _,?_,?_,fun r s d e=>?_⟩
     ·rw[De.size];have:=W.ext.size;omega
     ·rw[De.block _ (by omega),W.ext.block _ (by omega) (fun r s d e=>absurd e (hout r s d)),hb0]
     ·rcases W.grows.new r s _ d e with e|e|⟨s',d',e⟩
      ·exact hout _ _ _ e
      ·omega
      ·exact hout _ _ _ e

def YWD (P:Program) (lo r:Nat) (Ed body:Code) (size:Nat) (args:List Value) (ps:List Nat) (tmps:Ts) (h:H) (R:Value->H->Prop):Prop:=
 WD (TC false P Ed) size lo (fun e Iy h1=>e= .normal/\∃L1,h1.get r=some (.loop L1)/\L1.state= .ready/\
  WD (TC false P body) size lo (fun e _ h2=>∃p L2,roundEnd e=some p/\h2.get r=some (.loop L2)/\R (.bool (M8 p)) (h2.put r (.loop (ended L2 p)))) Iy (h1.put r (.loop (busy L1)))) (Jy ps args tmps) h

theorem Xu {P:Program}{lo:Nat}{h:H}{r:Nat}{L:F3}{args:List Value}{R:Value->H->Prop}(hg:h.get r=some (.loop L)) (hlo:lo<=r) (hr:r<h.next) (hlen:args.length=L.params.length) (hps:∀p∈L.params,p<L.size)
 (hw:YWD P lo r L.Ed L.body L.size args L.params L.tmps h R):Mn P (.func (.yield r) ⟨[]⟩ ⟨[]⟩) lo h args R:=by
 refine⟨fun o c ro a I w K Q ho ef TS k iF Ub hK=>?_⟩
 simp only[In,Ku]at iF
 obtain⟨⟨l,hat⟩, -⟩:=iF
 obtain⟨tmps,db,fn,eb,oY,ew⟩:=GJ k hg hat
 have hdef:∀c',o.op≠ .defer c':=fun c' e=>by rw[ho]at e;simp at e
 have hblk:I.blk r=l:=by simp[AZ.blk,hat]
 simp only[ren,Gs,hblk,AX]at ef
 unfold Uk at ef
 have bP:c.args.map a.eval=⟨AX I args⟩:=by apply Array.ext';simp[TS]
 have FG:(execOp a.eval o).run P w= .ok (.round l fn ((L.params.zip (AX I args)).foldl (fun tmps (t,a)=>tmps.setIfInBounds t a) tmps) L.Ed L.body) w:=by
  have hsz:(AX I args).length=L.params.length:=by rw[Cw,hlen]
  simp[execOp,ho,ef,Deferred.ofValue,invoke,Instr.yield,Instr.getLoop,getObj,Sem.run,ew,bP,hsz]
 refine⟨fun _ _=>trivial,?_⟩
 rw[Oper.semAt_eq _ _ _ hdef,FG,Oper.uponIn_round]
 refine⟨fun h=>by simp[WR,Fence.wide]at h,roundIn_of_wpIn trivial ?_⟩
 have ht0:=Cu.Jy L.params args L.tmps tmps oY hps Ub
 have hF:(WR ro).inRound l=WR (some l):=rfl
 rw[hF]
 refine Go.wpIn_mono (hw (some l) I w {tmps:=_,defers:=[]} k ht0 (by simp)) ?_
 rintro e a1 w1 ⟨Iy,h1,J1,⟨rfl,L1,hg1,yA,gb⟩,hq1,W1,t1,ms1, -, -⟩
 have hn1:r<h1.next:=Nat.lt_of_lt_of_le hr hq1.next
 have bO:J1.at_ r none=some (l,0):=W1.grows.le.at_ _ _ _ hat
 obtain⟨dJ,db1,fn1,eb1,Abm,ew1⟩:=GJ W1.rel hg1 bO
 have S1:=OB (L':=busy L1) W1.rel hg1 bO hlo rfl rfl rfl rfl rfl _ ew1
 refine⟨_,?_,Go.wpIn_mono (gb (some l) J1 _ a1 S1.rel t1 (by simp)) ?_⟩
 ·rw[yA]at ew1
  simp[Instr.beginRound,Instr.getLoop,getObj,setObj,Sem.run,ew1,busy]
 ·rintro e a2 w2 ⟨lJ,h2,J2,⟨p,L2,hp,hg2,hR⟩,hq2,W2,t2,ms2, -, -⟩
  have hn2:r<h2.next:=Nat.lt_of_lt_of_le hn1 hq2.next
  have oC:J2.at_ r none=some (l,0):=W2.grows.le.at_ _ _ _ bO
  obtain⟨Ac5,db2,fn2,eb2,Abl,ew2⟩:=GJ W2.rel hg2 oC
  have S2:=OB (L':=ended L2 p) W2.rel hg2 oC hlo rfl rfl rfl rfl rfl _ ew2
  have hend:=OX (P:=P) (p:=p) ew2
  have hfin:=hK _ _ J2 _ hR ((hq1.trans (Quiet.put hlo hn1)).trans (hq2.trans (Quiet.put hlo hn2))) (((W1.trans S1 hq1.next).trans W2 (Nat.le_trans hq1.next (Nat.le_refl _))).trans S2 (Nat.le_trans hq1.next hq2.next)) (by simp[In])
  simp only[ren]at hfin
  cases e<;>simp only[roundEnd,Option.some.injEq,reduceCtorEq]at hp
  all_goals subst hp;exact⟨_,_,hend,hfin⟩
end AE

/- Arguments that come in: values of any shape of numbers, truth values, strings, structs, arrays, slices, laid as rows that are only read. -/
namespace AE
open Go Go.RowKit Go.ChangeShapes Go.WideShapes


inductive Sh where
 |int (k:IntKind)
 |bool
 |str
 |nil
 |cons (a b:Sh)
 |slice (e:Sh)
def Sh.size:Sh->Nat
 |.int _|.bool|.str|.slice _=>1
 |.nil=>0
 |.cons a b=>a.size+b.size
def Sh.rep (s:Sh):Nat->Sh
 |0=>.nil
 |n+1=>.cons s (s.rep n)
mutual
inductive EO (P:Program):Sh->TypeId->Prop
 |int {k:IntKind} {t:TypeId} (ht:P.underlying t=some (.int k)):EO P (.int k) t
 |bool {t:TypeId} (ht:P.underlying t=some .bool):EO P .bool t
 |str {t:TypeId} (ht:P.underlying t=some .string):EO P .str t
 |slice {s:Sh} {t e:TypeId} (ht:P.underlying t=some (.slice e)) (hc:P.cellsOf e=s.size) (h0:0<s.size) (h:EO P s e):EO P (.slice s) t
 |struct {s:Sh} {t:TypeId} {fs:Array Field} (ht:P.underlying t=some (.struct fs)) (hc:P.cellsOf t=s.size) (h:Fields P s fs.toList 0):EO P s t
 |arr {s:Sh} {t e:TypeId} {n:Nat} (ht:P.underlying t=some (.array n e)) (hc:P.cellsOf e=s.size) (hct:P.cellsOf t=n*s.size) (h:EO P s e):EO P (s.rep n) t
inductive Fields (P:Program):Sh->List Field->Nat->Prop
 |nil {off:Nat}:Fields P .nil [] off
 |cons {a b:Sh} {f:Field} {fs:List Field} {off:Nat} (ho:f.offset=off) (hc:P.cellsOf f.type=a.size) (h:EO P a f.type) (r:Fields P b fs (off+a.size)):Fields P (.cons a b) (f::fs) off
end

def Fits (h:H) (m:Nat):Sh->List Value->Prop
 |.int k,cs=>∃n,cs=[.int k n]/\k.min<=n/\n<=k.max
 |.bool,cs=>∃b,cs=[.bool b]
 |.str,cs=>∃s:ByteArray,cs=[.string s]/\s.size<=maxLen
 |.nil,cs=>cs=[]
 |.cons a b,cs=>∃c1 c2,cs=c1++c2/\Fits h m a c1/\Fits h m b c2
 |.slice e,cs=>∃b a n c,cs=[.slice b n c]/\n<=c/\(c<=maxLen\/(far<=c/\n=0))/\(0<n->b=some a)/\(0<n->a.block<m/\a.spot=none)/\((b=none/\c=0)\/(∃a',b=some a'/\c=far)\/∃a',b=some a'/\a'.block<m/\h.Bu a' 0=some []/\a'.spot=none/\c<=maxLen)/\
  ∀i,i<n->∃l,h.Bu (BI a (i*e.size)) e.size=some l/\Fits h m e l
theorem Fits.same {h h':H}{m m':Nat}(s:Same m h h') (hm:m<=m'):∀{sh:Sh} {cs:List Value},Fits h m sh cs->Fits h' m' sh cs
 |.int _,_,k=>k
 |.bool,_,k=>k
 |.str,_,k=>k
 |.nil,_,k=>k
 |.cons a b,_,⟨c1,c2,e,k1,k2⟩=>⟨c1,c2,e,k1.same s hm,k2.same s hm⟩
 |.slice e,_,⟨b,a,n,c,e1,e2,e3,e4,e5,e6,e7⟩=>⟨b,a,n,c,e1,e2,e3,e4,fun h=>⟨Nat.lt_of_lt_of_le (e5 h).1 hm,(e5 h).2⟩,e6.imp id (Or.imp id fun⟨a',f1,f2,f3,f4⟩=>⟨a',f1,Nat.lt_of_lt_of_le f2 hm,by rw[s.Bu f2];exact f3,f4⟩),fun i hi=>by
  obtain⟨l,h1,h2⟩:=e7 i hi
  exact⟨l,by rw[s.Bu (a:=BI a (i*e.size)) (e5 (by omega)).1];exact h1,h2.same s hm⟩⟩
theorem Fits.length {h:H}{m:Nat}:∀{sh:Sh} {cs:List Value},Fits h m sh cs->cs.length=sh.size
 |.int _,_,⟨_,e,_⟩=>by rw[e];rfl
 |.bool,_,⟨_,e⟩=>by rw[e];rfl
 |.str,_,⟨_,e,_⟩=>by rw[e];rfl
 |.nil,_,e=>by rw[e];rfl
 |.cons a b,_,⟨c1,c2,e,k1,k2⟩=>by rw[e,List.length_append,k1.length,k2.length];rfl
 |.slice e,_,⟨b,a,n,c,e1,_⟩=>by rw[e1];rfl


theorem tc {I:AZ}{h:H}{W:World}(k:Rel I h W) (hb:I.base=W.heap.size) {b d:Nat}{c:List Value}(hlt:b<W.heap.size) (hi:C5 I c) (hc:∀i v,c[i]? =some v->W.cell? ⟨b,d+i,none⟩=some (ren I v)):
 Le I (I.lay h.next b d)/\Rel (I.lay h.next b d) ((h.bump 1).put h.next (.ro c)) W:=by
 have hnd:¬I.dom h.next:=fun x=>by have:=k.lt _ x;omega
 have hle:Le I (I.lay h.next b d):=by
  refine⟨fun r s p e=>?_,fun _ _ _ _=>rfl,rfl⟩
  simp only[AZ.lay]
  rw[if_neg]
  ·exact e
  ·rintro⟨rfl,rfl⟩;exact hnd ⟨_,_,e⟩
 refine⟨hle,fun r row e dm=>?_,fun r dm=>?_,fun r s b' d' e=>?_,by simp[AZ.lay,hb],k.tabs,fun r r' s s' b1 d1 d2 e1 e2 h1=>?_,fun r hr=>?_⟩
 ·simp only[H.put]at e
  split at e
  ·rename_i hr
   subst hr
   simp only[Option.some.injEq]at e
   subst e
   refine⟨(hle.AX c hi).2,b,d,AZ.bq ..,fun i v hv=>?_⟩
   rw[hc i v hv,(hle.ren v (Gm hi hv)).1]
  ·rename_i hr
   obtain⟨s,p,hp⟩:=dm
   have hp':I.at_ r s=some p:=by simp only[AZ.lay]at hp;rwa [if_neg (fun x=>hr x.1)]at hp
   refine(k.rows r row e ⟨s,p,hp'⟩).le hle (fun s' p' e'=>?_) (fun _ _=>rfl)
   simp only[AZ.lay]at e'
   rwa [if_neg (fun x=>hr x.1)]at e'
 ·obtain⟨s,p,hp⟩:=dm
  simp only[AZ.lay]at hp
  split at hp
  ·rename_i hr;rw[hr.1];exact Nat.lt_succ_self _
  ·have:=k.lt r ⟨s,p,hp⟩;exact Nat.lt_succ_of_lt this
 ·simp only[AZ.lay]at e
  split at e
  ·simp only[Option.some.injEq,Prod.mk.injEq]at e;omega
  ·exact k.size _ _ _ _ e
 ·simp only[AZ.lay]at e1 e2 h1
  split at e1
  ·simp only[Option.some.injEq,Prod.mk.injEq]at e1;omega
  ·split at e2
   ·simp only[Option.some.injEq,Prod.mk.injEq]at e2;omega
   ·exact k.inj _ _ _ _ _ _ _ e1 e2 h1
 ·simp only[H.put,H.bump]at hr⊢
  rw[if_neg (by omega)]
  exact k.clean r (by omega)

structure Came (I:AZ) (h:H) (W:World) (I':AZ) (h':H):Prop where
 le:Le I I'
 base:I'.base=I.base
 rel:Rel I' h' W
 same:Same h.next h h'
 next:h.next<=h'.next
theorem Came.refl {I:AZ}{h:H}{W:World}(k:Rel I h W):Came I h W I h:=⟨Le.refl I,rfl,k,Same.refl _ _,Nat.le_refl _⟩
theorem Came.trans {I I' I'':AZ}{h h' h'':H}{W:World}(a:Came I h W I' h') (b:Came I' h' W I'' h''):Came I h W I'' h'':=
 ⟨a.le.trans b.le,b.base.trans a.base,b.rel,a.same.trans (b.same.mono a.next),Nat.le_trans a.next b.next⟩
structure Here (I:AZ) (h:H) (s:Sh) (cs cs':List Value):Prop where
 fits:Fits h h.next s cs'
 inn:C5 I cs'
 ren:AX I cs'=cs
theorem Here.came {I I':AZ}{h h':H}{W:World}{s:Sh}{cs cs':List Value}(k:Here I h s cs cs') (a:Came I h W I' h'):Here I' h' s cs cs':=
 ⟨k.fits.same a.same a.next,(a.le.AX _ k.inn).2,by rw[(a.le.AX _ k.inn).1];exact k.ren⟩

section
variable {P:Program}{T:Type}{enc:TypeId × Value->T}{W:World}
def Rd (enc:TypeId × Value->T) (P:Program) (W:World) (t:TypeId) (cs:List Value):Prop:=∃fuel y,DataW.trod enc P W 0 (fun _=>true) true fuel t cs=some y

def Lays (enc:TypeId × Value->T) (P:Program) (W:World) (s:Sh):Prop:=
 ∀t,EO P s t->∀cs,Rd enc P W t cs->∀I h,Rel I h W->I.base=W.heap.size->∃h' I' cs',Came I h W I' h'/\Here I' h' s cs cs'
def ZE (enc:TypeId × Value->T) (P:Program) (W:World) (s:Sh):Prop:=
 ∀fs off,Fields P s fs off->∀cs:List Value,cs.length=off+s.size->(∀f,f∈fs->Rd enc P W f.type ((cs.drop f.offset).take (P.cellsOf f.type)))->∀I h,Rel I h W->I.base=W.heap.size->∃h' I' cs',Came I h W I' h'/\Here I' h' s (cs.drop off) cs'

theorem Yw {s:Sh}(ih:Lays enc P W s) {e:TypeId}(hs:EO P s e):∀(n:Nat) (cs:List Value),cs.length=n*s.size->(∀i,i<n->Rd enc P W e ((cs.drop (i*s.size)).take s.size))->∀I h,Rel I h W->I.base=W.heap.size->
 ∃h' I' cs',Came I h W I' h'/\Here I' h' (s.rep n) cs cs'
 |0,cs,hl,_,I,h,k,hb=>⟨h,I,[],Came.refl k,rfl,by simp[C5],by rw[show cs=[]from List.eq_nil_of_length_eq_zero (by omega)];simp[AX]⟩
 | n+1,cs,hl,hr,I,h,k,hb=>by
   obtain⟨h1,I1,c1,a1,k1⟩:=ih e hs _ (hr 0 (by omega)) I h k hb
   rw[Nat.add_mul,Nat.one_mul]at hl
   obtain⟨h2,I2,c2,a2,k2⟩:=Yw ih hs n (cs.drop s.size) (by rw[List.length_drop];omega) (fun i hi=>by
    have:=hr (i+1) (by omega)
    rw[List.drop_drop]
    rwa [show s.size+i*s.size=(i+1) *s.size by rw[Nat.add_mul];omega]) I1 h1 a1.rel (a1.base.trans hb)
   have k1':=k1.came a2
   refine⟨h2,I2,c1++c2,a1.trans a2,⟨c1,c2,rfl,k1'.fits,k2.fits⟩,Df.2 ⟨k1'.inn,k2.inn⟩,?_⟩
   rw[CY,k1'.ren,k2.ren,Nat.zero_mul,List.drop_zero,List.take_append_drop]

theorem Yx {s:Sh}(ih:Lays enc P W s) {e:TypeId}(hs:EO P s e) (c:Nat->List Value):∀(n:Nat),(∀i,i<n->Rd enc P W e (c i))->∀I h,Rel I h W->I.base=W.heap.size->
 ∃(h':H) (I':AZ) (F:Nat->List Value),Came I h W I' h'/\∀i,i<n->Here I' h' s (c i) (F i)
 |0,_,I,h,k,hb=>⟨h,I,fun _=>[],Came.refl k,fun i hi=>by omega⟩
 | n+1,hr,I,h,k,hb=>by
   obtain⟨h1,I1,F,a1,k1⟩:=Yx ih hs c n (fun i hi=>hr i (by omega)) I h k hb
   obtain⟨h2,I2,c2,a2,k2⟩:=ih e hs _ (hr n (by omega)) I1 h1 a1.rel (a1.base.trans hb)
   refine⟨h2,I2,fun i=>if i=n then c2 else F i,a1.trans a2,fun i hi=>?_⟩
   by_cases hin:i=n
   ·subst hin;simp only[if_true];exact k2
   ·simp only[if_neg hin];exact(k1 i (by omega)).came a2
def La (F:Nat->List Value):Nat->List Value
 |0=>[]
 |n+1=>La F n++F n
theorem Iq {F:Nat->List Value}{z:Nat}:∀{n:Nat},(∀i,i<n->(F i).length=z)->(La F n).length=n*z
 |0,_=>by simp[La]
 |n+1,h=>by rw[La,List.length_append,Iq (fun i hi=>h i (by omega)),h n (by omega),Nat.add_mul,Nat.one_mul]
theorem PX {F:Nat->List Value}{z:Nat}:∀{n:Nat},(∀i,i<n->(F i).length=z)->∀i,i<n->((La F n).drop (i*z)).take z=F i
 |0,_,i,hi=>by omega
 | n +1,h,i,hi=>by
   have hl:=Iq (F:=F) (z:=z) (n:=n) (fun i hi=>h i (by omega))
   rw[La]
   by_cases hin:i=n
   ·subst hin
    rw[List.drop_append_of_le_length (by omega),List.drop_of_length_le (by omega),List.nil_append,List.take_of_length_le (by rw[h i (by omega)];omega)]
   ·have h1:i*z+z<=n*z:=by
     have:(i+1) *z<=n*z:=Nat.mul_le_mul_right _ (by omega)
     rw[Nat.add_mul]at this;omega
    rw[List.drop_append_of_le_length (by omega),List.take_append_of_le_length (by rw[List.length_drop];omega)]
    exact PX (fun i hi=>h i (by omega)) i (by omega)
theorem jF {F:Nat->List Value}{z:Nat}{n:Nat}(h:∀i,i<n->(F i).length=z) {j:Nat}{v:Value}(hv:(La F n)[j]? =some v):∃i r,i<n/\r<z/\j=i*z+r/\(F i)[r]? =some v:=by
 have hlt:=(List.getElem?_eq_some_iff.1 hv).1
 have hl:=Iq h
 have hz:0<z:=by
  rcases Nat.eq_zero_or_pos z with h0|h0
  ·rw[h0]at hl;omega
  ·exact h0
 have hi:j / z<n:=Nat.div_lt_of_lt_mul (by rw[Nat.mul_comm];omega)
 refine⟨j / z,j%z,hi,Nat.mod_lt _ hz,by rw[Nat.mul_comm];exact(Nat.div_add_mod j z).symm,?_⟩
 have hc:=PX h (j / z) hi
 rw[<-hc,List.getElem?_take,if_pos (Nat.mod_lt _ hz),List.getElem?_drop]
 rw[show j / z*z+j%z=j by rw[Nat.mul_comm];exact Nat.div_add_mod j z]
 exact hv
theorem Y1 {I:AZ}{F:Nat->List Value}:∀{n:Nat},(∀i,i<n->C5 I (F i))->C5 I (La F n)
 |0,_=>by simp[La,C5]
 |n+1,h=>Df.2 ⟨Y1 (fun i hi=>h i (by omega)),h n (by omega)⟩

theorem add_add' (a:Addr) (i j:Nat) (hs:a.spot=none):(a.add i).add j=⟨a.block,a.off+(i+j),none⟩:=by
 obtain⟨b,o,s⟩:=a
 simp only at hs
 subst hs
 unfold Addr.add
 by_cases h1:i=0<;>by_cases h2:j=0<;>simp[h1,h2,Nat.add_assoc]
theorem uK {a:Addr}{v:Value}(h:W.cell? a=some v):a.block<W.heap.size/\a.spot=none:=by
 unfold World.cell? at h
 split at h
 ·rename_i hh
  refine⟨(Array.getElem?_eq_some_iff.1 hh).1,?_⟩
  split at h
  ·cases h
  ·rename_i hs;simpa using hs
 ·cases h
theorem mT {h:H}{r off n:Nat}{c l:List Value}(hg:h.get r=some (.ro c)) (hl:cut c off n=some l):h.Bu ⟨r,off,none⟩ n=some l:=by
 simp[H.Bu,hg,Cr,hl]
theorem add_zero' (a:Addr):a.add 0=a:=by simp[Addr.add]

theorem bj {s:Sh}(ih:Lays enc P W s):Lays enc P W (.slice s):=by
 intro t hs cs hr I h k hb
 have Ana:∀e,P.underlying t=some (.slice e)->P.cellsOf e=s.size->0<s.size->EO P s e->∃h' I' cs',Came I h W I' h'/\Here I' h' (.slice s) cs cs':=by
  intro e ht hc h0 he
  obtain⟨fuel,y,hy⟩:=hr
  rcases DataW.trod_slice ht hy with⟨rfl,_⟩|⟨a,len,cap,elems,rest,m,_,rfl,_,hba,hl,hm,hlen,hel,hsp,_⟩
  ·exact⟨h,I,[.slice none 0 0],Came.refl k,⟨none,⟨0,0,none⟩,0,0,rfl,by omega,.inl (by omega),fun h=>by omega,fun h=>by omega,.inl ⟨rfl,rfl⟩,fun i hi=>by omega⟩,by simp[C5,In],by simp[AX,AE.ren]⟩
  obtain⟨hrl,hrest⟩:=hsp rfl
  have hcell:∀i,i<len->∃ci,W.cells? 0 (a.add (i*s.size)) s.size=some ci/\Rd enc P W e ci:=fun i hi=>by
   have:=hel i hi
   rw[hc]at this
   have hi2:i<elems.length:=by omega
   rw[List.getElem?_eq_getElem hi2]at this
   obtain⟨ci,h1,h2⟩:=Option.bind_eq_some_iff.1 this
   exact⟨ci,h1,m,_,h2⟩
  have hok:(0<len\/0<cap)->a.block<W.heap.size/\a.spot=none:=by
   intro hpos
   have hone:∃c0,W.cells? 0 (a.add 0) s.size=some c0:=by
    rcases Nat.eq_zero_or_pos len with hl0|hl0
    ·have hcp:0<cap:=by omega
     have:=hrest 0 (by omega)
     rw[hc,hl0,Nat.zero_add,Nat.zero_mul]at this
     have hi2:0<rest.length:=by omega
     rw[List.getElem?_eq_getElem hi2]at this
     obtain⟨ci,h1,h2⟩:=Option.bind_eq_some_iff.1 this
     exact⟨ci,h1⟩
    ·obtain⟨ci,h1,_⟩:=hcell 0 hl0
     rw[Nat.zero_mul]at h1
     exact⟨ci,h1⟩
   obtain⟨c0,h1⟩:=hone
   obtain⟨-,hl1,hget⟩:=World.cells?_some h1
   have hg0:=hget 0 h0
   rw[add_zero',add_zero',List.getElem?_eq_getElem (by omega)]at hg0
   exact uK hg0
  have hch:∃c:Nat->List Value,∀i,i<len->W.cells? 0 (a.add (i*s.size)) s.size=some (c i)/\Rd enc P W e (c i):=
   ⟨fun i=>if hi:i<len then(hcell i hi).choose else[],fun i hi=>by simp only[dif_pos hi];exact(hcell i hi).choose_spec⟩
  obtain⟨c,hcc⟩:=hch
  obtain⟨h1,I1,F,a1,k1⟩:=Yx ih he c len (fun i hi=>(hcc i hi).2) I h k hb
  have hF:∀i,i<len->(F i).length=s.size:=fun i hi=>(k1 i hi).fits.length
  by_cases vK:a.block<W.heap.size/\a.spot=none
  ·obtain⟨hlt,hspot⟩:=vK
   obtain⟨hle,hrel⟩:=tc (b:=a.block) (d:=a.off) (c:=La F len) a1.rel (a1.base.trans hb) hlt (Y1 fun i hi=>(k1 i hi).inn) (fun j v hv=>by
    obtain⟨i,r,hi,hrz,rfl,hfr⟩:=jF hF hv
    obtain⟨-,hl1,hget⟩:=World.cells?_some (hcc i hi).1
    have hg:=hget r hrz
    rw[add_add' a _ _ hspot]at hg
    rw[hg,<-(k1 i hi).ren,Dm,hfr]
    rfl)
   have a2:Came I1 h1 W (I1.lay h1.next a.block a.off) ((h1.bump 1).put h1.next (.ro (La F len))):=
    ⟨hle,rfl,hrel,((Same.refl _ _).bump).put (Nat.le_refl _),by simp[Bv,AY]⟩
   have MW:cap<far:=by unfold maxLen at hm;unfold far;omega
   refine⟨_,_,[.slice (some ⟨h1.next,0,none⟩) len cap],a1.trans a2,⟨some ⟨h1.next,0,none⟩,⟨h1.next,0,none⟩,len,cap,rfl,hl,.inl hm,fun _=>rfl,fun _=>⟨by simp[Bv,AY],rfl⟩,.inr (.inr ⟨_,rfl,by simp[Bv,AY],?_,rfl,hm⟩),fun i hi=>?_⟩,?_,?_⟩
   ·simp[H.Bu,H.put,Cr,cut]
   ·refine⟨F i,?_,((k1 i hi).came a2).fits⟩
    have hlf:=Iq hF
    have h3:i*s.size+s.size<=len*s.size:=by
     have:(i+1) *s.size<=len*s.size:=Nat.mul_le_mul_right _ (by omega)
     rw[Nat.add_mul]at this;omega
    refine mT (off:=0+i*s.size) (c:=La F len) (KI rfl) ?_
    unfold cut
    rw[if_pos (by omega),Nat.zero_add,PX hF i hi]
   ·simp only[C5,and_true]
    rw[Dp MW]
    exact⟨⟨_,AZ.bq ..⟩,hl⟩
   ·simp only[AX]
    rw[CQ MW]
    simp only[Ew,AZ.bq,CH,Nat.add_zero]
    obtain⟨ab,ao,as⟩:=a
    simp only at hspot
    subst hspot
    rfl
  ·have hcap0:cap=0:=by
    rcases Nat.eq_zero_or_pos cap with h0|h0
    ·exact h0
    ·exact absurd (hok (.inr h0)) vK
   have OQ:len=0:=by omega
   subst hcap0 OQ
   refine⟨h1,I1,[.slice (some a) 0 far],a1,⟨some a,a,0,far,rfl,by omega,.inr ⟨Nat.le_refl _,rfl⟩,fun h=>by omega,fun h=>by omega,.inr (.inl ⟨_,rfl,rfl⟩),fun i hi=>by omega⟩,?_,?_⟩
   ·simp only[C5,and_true]
    rw[Mj (Nat.le_refl _)]
    exact⟨rfl,.inl rfl⟩
   ·simp only[AX]
    rw[Et (Nat.le_refl _),Ko,Kn]
 generalize hsh:Sh.slice s=s' at hs
 cases hs with
 |slice ht hc h0 he=>cases hsh;exact Ana _ ht hc h0 he
 |struct ht hc hf=>subst hsh;cases hf
 | @arr s0 t0 e0 n0 ht hc hct he=>cases n0<;>simp[Sh.rep]at hsh
 |_=>cases hsh

theorem lays (s:Sh):Lays enc P W s/\ZE enc P W s:=by
 have noF:∀s:Sh,(∀fs off,¬Fields P s fs off)->ZE enc P W s:=fun s hn fs off hf=>absurd hf (hn fs off)
 -- a struct, an array, of what is known
 have wide:∀s:Sh,ZE enc P W s->(∀n s0,s=s0.rep n->0<n->Lays enc P W s0)->∀t,EO P s t->(∀fs,P.underlying t=some (.struct fs)->P.cellsOf t=s.size->Fields P s fs.toList 0->∀cs,Rd enc P W t cs->∀I h,Rel I h W->I.base=W.heap.size->∃h' I' cs',Came I h W I' h'/\Here I' h' s cs cs')/\
  (∀n e s0,s=s0.rep n->P.underlying t=some (.array n e)->P.cellsOf e=s0.size->P.cellsOf t=n*s0.size->EO P s0 e->∀cs,Rd enc P W t cs->∀I h,Rel I h W->I.base=W.heap.size->∃h' I' cs',Came I h W I' h'/\Here I' h' s cs cs'):=by
  intro s hF hA t _
  refine⟨fun fs ht hc hf cs hr I h k hb=>?_,fun n e s0 e1 ht hc hct he cs hr I h k hb=>?_⟩
  ·obtain⟨fuel,y,hy⟩:=hr
   obtain⟨xs,m, -, -,hl,hxl,hx⟩:=DataW.trod_struct ht hy
   have:=hF fs.toList 0 hf cs (by omega) (fun f hfm=>by
    obtain⟨i,hi,hfi⟩:=List.mem_iff_getElem.1 hfm
    have hi':i<fs.size:=by simpa using hi
    have h1:=hx i f (by rw[<-hfi];simp[hi'])
    rw[List.getElem?_eq_getElem (by omega)]at h1
    exact⟨m,_,h1⟩) I h k hb
   simpa using this
  ·subst e1
   obtain⟨fuel,y,hy⟩:=hr
   obtain⟨xs,m, -, -,hl,hxl,hx⟩:=DataW.trod_array ht hy
   rcases Nat.eq_zero_or_pos n with h0|h0
   ·subst h0
    exact⟨h,I,[],Came.refl k,rfl,by simp[C5],by rw[show cs=[]from List.eq_nil_of_length_eq_zero (by omega)];simp[AX]⟩
   ·refine Yw (hA n s0 rfl h0) he n cs (by omega) (fun i hi=>?_) I h k hb
    have h1:=hx i hi
    rw[hc,List.getElem?_eq_getElem (by omega)]at h1
    exact⟨m,_,h1⟩
 induction s with
 | int q=>
   refine⟨?_,noF _ fun fs off hf=>by cases hf⟩
   intro t hs cs hr I h k hb
   obtain⟨fuel,y,hy⟩:=hr
   generalize hsh:Sh.int q=s' at hs
   cases hs with
   | int ht=>
     cases hsh
     obtain⟨n,rfl, -,hw⟩:=DataW.trod_int ht hy
     refine⟨h,I,[.int q n],Came.refl k,⟨n,rfl,?_⟩,by simp[C5,In],by simp[AX,AE.ren]⟩
     simpa[Lit.wf]using hw
   |struct ht hc hf=>subst hsh;cases hf
   | @arr s0 t0 e0 n0 ht hc hct he=>cases n0<;>simp[Sh.rep]at hsh
   |_=>cases hsh
 | bool=>
   refine⟨?_,noF _ fun fs off hf=>by cases hf⟩
   intro t hs cs hr I h k hb
   obtain⟨fuel,y,hy⟩:=hr
   generalize hsh:Sh.bool=s' at hs
   cases hs with
   | bool ht=>
     obtain⟨n,rfl, -⟩:=DataW.trod_bool ht hy
     exact⟨h,I,[.bool n],Came.refl k,⟨n,rfl⟩,by simp[C5,In],by simp[AX,AE.ren]⟩
   |struct ht hc hf=>subst hsh;cases hf
   | @arr s0 t0 e0 n0 ht hc hct he=>cases n0<;>simp[Sh.rep]at hsh
   |_=>cases hsh
 | str=>
   refine⟨?_,noF _ fun fs off hf=>by cases hf⟩
   intro t hs cs hr I h k hb
   obtain⟨fuel,y,hy⟩:=hr
   generalize hsh:Sh.str=s' at hs
   cases hs with
   | str ht=>
     obtain⟨n,rfl, -,hw⟩:=DataW.trod_string ht hy
     exact⟨h,I,[.string n],Came.refl k,⟨n,rfl,hw⟩,by simp[C5,In],by simp[AX,AE.ren]⟩
   |struct ht hc hf=>subst hsh;cases hf
   | @arr s0 t0 e0 n0 ht hc hct he=>cases n0<;>simp[Sh.rep]at hsh
   |_=>cases hsh
 | nil=>
   have hF:ZE enc P W .nil:=by
    intro fs off hf cs hl hr I h k hb
    exact⟨h,I,[],Came.refl k,rfl,by simp[C5],by rw[List.drop_of_length_le (by simp only[Sh.size]at hl;omega)];simp[AX]⟩
   refine⟨?_,hF⟩
   intro t hs cs hr I h k hb
   have hw:=wide .nil hF (fun n s0 e h0=>by cases n<;>simp[Sh.rep]at e h0) t hs
   generalize hsh:Sh.nil=s' at hs
   cases hs with
   |struct ht hc hf=>subst hsh;exact hw.1 _ ht hc hf cs hr I h k hb
   |arr ht hc hct he=>exact(by
    have:=hw.2 _ _ _ hsh ht hc hct he cs hr I h k hb
    rw[<-hsh];exact this)
   |_=>cases hsh
 | cons a b iha ihb=>
   have hF:ZE enc P W (.cons a b):=by
    intro fs off hf cs hl hr I h k hb
    cases hf with
    | @cons _ _ f fs' _ ho hc ha hrest=>
      simp only[Sh.size]at hl
      have hra:=hr f (by simp)
      rw[ho,hc]at hra
      obtain⟨h1,I1,c1,a1,k1⟩:=iha.1 _ ha _ hra I h k hb
      obtain⟨h2,I2,c2,a2,k2⟩:=ihb.2 fs' _ hrest cs (by omega) (fun g hg=>hr g (by simp[hg])) I1 h1 a1.rel (a1.base.trans hb)
      have k1':=k1.came a2
      refine⟨h2,I2,c1++c2,a1.trans a2,⟨c1,c2,rfl,k1'.fits,k2.fits⟩,Df.2 ⟨k1'.inn,k2.inn⟩,?_⟩
      rw[CY,k1'.ren,k2.ren,<-List.drop_drop,List.take_append_drop]
   refine⟨?_,hF⟩
   intro t hs cs hr I h k hb
   have hA:∀n s0,Sh.cons a b=s0.rep n->0<n->Lays enc P W s0:=fun n s0 e h0=>by
    cases n with
    |zero=>omega
    |succ n=>simp only[Sh.rep,Sh.cons.injEq]at e;rw[<-e.1];exact iha.1
   have hw:=wide (.cons a b) hF hA t hs
   generalize hsh:Sh.cons a b=s' at hs
   cases hs with
   |struct ht hc hf=>subst hsh;exact hw.1 _ ht hc hf cs hr I h k hb
   |arr ht hc hct he=>exact(by
    have:=hw.2 _ _ _ hsh ht hc hct he cs hr I h k hb
    rw[<-hsh];exact this)
   |_=>cases hsh
 |slice e ihe=>exact⟨bj ihe.1,noF _ fun fs off hf=>by cases hf⟩
end
end AE

/- All arguments of a call that come in; what the statements' form asks of a call. -/
namespace AE
open Go Go.RowKit Go.ChangeShapes Go.WideShapes Go.ChangeAt

def Mm (h:H) (m:Nat):List (Bool × Sh)->List Value->Prop
 |[],vs=>vs=[]
 |(true,s)::r,vs=>∃cs rest,vs= .agg ⟨cs⟩::rest/\Fits h m s cs/\Mm h m r rest
 |(false,s)::r,vs=>∃v rest,vs=v::rest/\Fits h m s [v]/\Mm h m r rest
def ShV (P:Program):List (Bool × Sh)->List TypeId->Prop
 |[],ts=>ts=[]
 |(f,s)::r,ts=>∃t rest,ts=t::rest/\EO P s t/\Dc P t=some f/\ShV P r rest
theorem Mm.same {h h':H}{m m':Nat}(s:Same m h h') (hm:m<=m'):∀{rQ:List (Bool × Sh)} {vs:List Value},Mm h m rQ vs->Mm h' m' rQ vs
 |[],_,k=>k
 |(true,_)::_,_,⟨cs,rest,e,k1,k2⟩=>⟨cs,rest,e,k1.same s hm,k2.same s hm⟩
 |(false,_)::_,_,⟨v,rest,e,k1,k2⟩=>⟨v,rest,e,k1.same s hm,k2.same s hm⟩

section
variable {P:Program}{T:Type}{enc:TypeId × Value->T}{W:World}{base:Nat}

theorem one_cell {s:Sh}{t:TypeId}{v:Value}(hs:EO P s t) (hg:Dc P t=some false) (hok:Value.okWide P W .any base t v):v.cells.toList=[v]:=by
 have hc:Cell.okWide P W .any base t v:=by
  unfold Value.okWide at hok
  unfold Dc at hg
  split at hok
  ·rename_i h;rw[h]at hg;simp at hg
  ·rename_i h;rw[h]at hg;simp at hg
  ·exact hok
 unfold Cell.okWide at hc
 cases hs with
 |int ht=>rw[ht]at hc;cases v<;>first|rfl|simp[Cell.ok,ht]at hc
 |bool ht=>rw[ht]at hc;cases v<;>first|rfl|simp[Cell.ok,ht]at hc
 |str ht=>rw[ht]at hc;cases v<;>first|rfl|simp[Cell.ok,ht]at hc
 |slice ht _ _ _=>rw[ht]at hc;cases v<;>first|rfl|simp[Cell.ok,ht]at hc
 |struct ht _ _=>unfold Dc at hg;rw[ht]at hg;simp at hg
 |arr ht _ _ _=>unfold Dc at hg;rw[ht]at hg;simp at hg
theorem kD {t:TypeId}{v:Value}(hg:Dc P t=some true) (hok:Value.okWide P W .any base t v):∃cs,v= .agg cs:=by
 unfold Value.okWide at hok
 unfold Dc at hg
 split at hok
 ·obtain⟨cs,e,_⟩:=hok;exact⟨cs,e⟩
 ·obtain⟨cs,e,_⟩:=hok;exact⟨cs,e⟩
 ·rename_i h1 h2
  split at hg
  ·rename_i h;exact absurd h (h1 _)
  ·rename_i h;exact absurd h (h2 _ _)
  ·simp at hg
  ·simp at hg

theorem Vs:∀(rQ:List (Bool × Sh)) (ts:List TypeId) (vs:List Value) (ds:List (DataW T)) (p:List MemPlace),ShV P rQ ts->DataW.TrodAll enc P W 0 (fun _=>true) true ts vs ds p->(∀(j:Nat) t v,ts[j]? =some t->vs[j]? =some v->Value.okWide P W .any base t v)->
 ∀I h,Rel I h W->I.base=W.heap.size->∃h' I' vs',Came I h W I' h'/\Mm h' h'.next rQ vs'/\C5 I' vs'/\AX I' vs'=vs
 | [],ts,vs,ds,p,hs,hA,hok,I,h,k,hb=>by
   have hs:ts=[]:=hs
   subst hs
   obtain⟨rfl, -, -⟩:=trodAll_nil hA
   exact⟨h,I,[],Came.refl k,rfl,by simp[C5],by simp[AX]⟩
 | (f, s)::r,ts,vs,ds,p,hs,hA,hok,I,h,k,hb=>by
   obtain⟨t,rest,rfl,h1,h2,h3⟩:=hs
   obtain⟨v,vs',d,ds',p1,q1,rfl,rfl,rfl,ht,hr⟩:=trodAll_cons hA
   have hv:=hok 0 t v rfl rfl
   obtain⟨fuel,hfuel⟩:=ht
   obtain⟨ha,Ia,cs',a1,k1⟩:=(lays (enc:=enc) (P:=P) (W:=W) s).1 t h1 v.cells.toList ⟨fuel,_,hfuel⟩ I h k hb
   obtain⟨hc,Ic,rs',a2,k2,i2,e2⟩:=Vs r rest vs' ds' q1 h3 hr (fun j t' v' e1 e2=>hok (j+1) t' v' (by simpa using e1) (by simpa using e2)) Ia ha a1.rel (a1.base.trans hb)
   have k1':=k1.came a2
   cases f with
   | true=>
     obtain⟨cs,rfl⟩:=kD h2 hv
     refine⟨hc,Ic,.agg ⟨cs'⟩::rs',a1.trans a2,⟨cs',rs',rfl,k1'.fits,k2⟩,?_,?_⟩
     ·simp only[C5,In];exact⟨k1'.inn,i2⟩
     ·simp only[AX,ren]
      rw[k1'.ren,e2]
      rfl
   | false=>
     have hone:=one_cell h1 h2 hv
     have S4:=k1'.ren
     rw[hone]at S4
     match cs',S4,k1'.fits,k1'.inn with
     | [v'],S4,hfit,Aen=>
       simp only[AX,List.cons.injEq,and_true]at S4
       simp only[C5,and_true]at Aen
       exact⟨hc,Ic,v'::rs',a1.trans a2,⟨v',rs',rfl,hfit,k2⟩,⟨Aen,i2⟩,by simp only[AX];rw[S4,e2]⟩
     |[],S4,_,_=>simp[AX]at S4
     |_::_::_,S4,_,_=>simp[AX]at S4

theorem MD (htab:Qe W.heap.size W) {f:FuncId}{rQ:List (Bool × Sh)}{ts:List TypeId}{args:Array Value}{ds:List (DataW T)}{p:List MemPlace}(hs:ShV P rQ ts) (hA:DataW.TrodAll enc P W 0 (fun _=>true) true ts args.toList ds p)
 (hok:∀(j:Nat) t v,ts[j]? =some t->args[j]? =some v->Value.okWide P W .any base t v) (hw:∀{h:H} {vs:List Value},Mm h h.next rQ vs->AW P f h.next h vs (fun v _=>v= .bool true)):
 Calls P f args W fun e w'=>e= .returned (.bool true)/\Below W.heap.size W w':=by
 obtain⟨h',I',vs',a,k,i,e⟩:=Vs rQ ts args.toList ds p hs hA (fun j t v e1 e2=>hok j t v e1 (by rw[<-Array.getElem?_toList];exact e2)) (nR W) H.empty (Ajr W htab) rfl
 have hargs:(⟨AX I' vs'⟩:Array Value)=args:=by rw[e]
 rw[<-hargs]
 exact(hw k).law a.rel a.base i
theorem F8 (hl:laidOutB P=true) {W':World}(hb:Below W.heap.size W W'):∀(ts:List TypeId) (vs:List Value) (ds:List (DataW T)) (p:List MemPlace),(ts.all fun t=>P.readableRec t&&decide (t<P.types.size))=true->DataW.TrodAll enc P W 0 (fun _=>true) true ts vs ds p->
 DataW.TrodAll enc P W' 0 (fun b=>decide (b<W.heap.size)) true ts vs ds p
 | [],vs,ds,p,_,hA=>by
   obtain⟨rfl,rfl,rfl⟩:=trodAll_nil hA
   exact rfl
 | t::ts,vs,ds,p,hr,hA=>by
   obtain⟨v,vs',d,ds',p1,q1,rfl,rfl,rfl,ht,hr'⟩:=trodAll_cons hA
   simp only[List.all_cons,Bool.and_eq_true,decide_eq_true_eq]at hr
   have lt:∀x∈p1,x.block<W.heap.size:=by obtain⟨m,hm⟩:=ht;exact DataW.trod_lt m _ _ _ hm
   exact⟨p1,q1,Below.trod hl hr.1.1 hr.1.2 ht hb lt,F8 hl hb ts vs' ds' q1 (by simpa using hr.2) hr',rfl⟩
end


def Sh.ints (k:IntKind):Sh->Bool
 |.int k'=>k'==k
 |.nil=>true
 |.cons a b=>a.ints k&&b.ints k
 |_=>false
theorem HA {k:IntKind}{h:H}{m:Nat}:∀{s:Sh} {cs:List Value},s.ints k=true->Fits h m s cs->∃zs:List Int,cs=zs.map (.int k)/\zs.length=s.size/\∀z∈zs,k.min<=z/\z<=k.max
 | .int k',cs,hi,⟨n,e,h1,h2⟩=>by
   simp only[Sh.ints,beq_iff_eq]at hi
   subst hi
   exact⟨[n],by rw[e];rfl,rfl,fun z hz=>by simp only[List.mem_singleton]at hz;subst hz;exact⟨h1,h2⟩⟩
 |.nil,cs,_,e=>⟨[],by rw[show cs=[]from e];rfl,rfl,fun z hz=>by simp at hz⟩
 | .cons a b,cs,hi,⟨c1,c2,e,k1,k2⟩=>by
   simp only[Sh.ints,Bool.and_eq_true]at hi
   obtain⟨z1,e1,l1,b1⟩:=HA hi.1 k1
   obtain⟨z2,e2,l2,b2⟩:=HA hi.2 k2
   refine⟨z1++z2,by rw[e,e1,e2,List.map_append],by rw[List.length_append,l1,l2];rfl,fun z hz=>?_⟩
   rcases List.mem_append.1 hz with hz|hz
   ·exact b1 z hz
   ·exact b2 z hz
 |.bool,_,hi,_=>by simp[Sh.ints]at hi
 |.str,_,hi,_=>by simp[Sh.ints]at hi
 |.slice _,_,hi,_=>by simp[Sh.ints]at hi

theorem GH {α:Type}(d:α) {n:Nat}{p:Nat->α->Prop}(h:∀i,i<n->∃x,p i x):∃f:Nat->α,∀i,i<n->p i (f i):=by
 classical
 exact⟨fun i=>if hi:i<n then(h i hi).choose else d,fun i hi=>by simp only[dif_pos hi];exact(h i hi).choose_spec⟩
end AE
