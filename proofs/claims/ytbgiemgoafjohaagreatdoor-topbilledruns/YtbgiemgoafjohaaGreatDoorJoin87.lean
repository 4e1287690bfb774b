/- Walks and plain laws: AEKerD, AEKerP, T12Nd. -/
import Derived.Test.YtbgiemgoafjohaaGreatDoorJoin89
import Derived.Test.YtbgiemgoafjohaaGreatDoorAEthree
import Derived.Test.YtbgiemgoafjohaaGreatDoorProg
import Derived.KernelRfl
set_option linter.unusedVariables false
set_option linter.unusedSimpArgs false
set_option linter.unusedSectionVars false

/- An evaluator for the kernel that goes every way a range over a map may go: closed calls by evaluation. -/
set_option linter.unusedVariables false
namespace AE.KerD
open Go AE
open AE.KerT (KFn TabOk)

theorem Jg {P:Program}{lo base:Nat}{K K':Ts->H->Prop}(hK:∀ts h,K ts h->K' ts h):∀{xs:List Ao} {i:Nat} {ts:Ts} {h:H},RunD P lo base i xs K ts h->RunD P lo base i xs K' ts h
 |[],_,_,_,h=>hK _ _ h
 | o::rest,i,ts,h,hr=>by
   simp only[RunD]at hr⊢
   split
   ·rename_i hw
    rw[if_pos hw]at hr
    cases hi:o.ins with
    | op ao=>
      rw[hi]at hr
      obtain⟨v,h',ha,hr⟩:=hr
      exact⟨v,h',ha,Jg hK hr⟩
    | call f args=>
      rw[hi]at hr
      exact hr.mono (Nat.le_refl _) fun v h' hr=>Jg hK hr
   ·rename_i hw
    rw[if_neg hw]at hr
    exact Jg hK hr
theorem Co {P:Program}{lo:Nat}:∀(A:Aj) {Q Q':Exit->Ts->H->Prop},(∀e ts h,Q e ts h->Q' e ts h)->∀ts h,HU P lo A Q ts h->HU P lo A Q' ts h
 |.skip,_,_,hq,ts,h,w=>hq _ _ _ w
 |.ret,_,_,hq,ts,h,w=>hq _ _ _ w
 |.exit _,_,_,hq,ts,h,w=>hq _ _ _ w
 |.seq a b,Q,Q',hq,ts,h,w=>Co a (Q:=Da (HU P lo b Q) Q) (fun e ts h x=>by cases e<;>first|exact Co b hq _ _ x|exact hq _ _ _ x) ts h w
 | .cond c a b,Q,Q',hq,ts,h,w=>by
   obtain⟨t,e,w⟩:=w
   refine⟨t,e,?_⟩
   split
   ·rename_i ht;rw[if_pos ht]at w;exact Co a hq _ _ w
   ·rename_i ht;rw[if_neg ht]at w;exact Co b hq _ _ w
 |.block id c,Q,Q',hq,ts,h,w=>Co c (Q:=C9 id Q) (fun e ts h x=>by
  cases e<;>first|exact hq _ _ _ x|skip
  simp only[C9]at x⊢
  split
  ·rename_i ht;rw[if_pos ht]at x;exact hq _ _ _ x
  ·rename_i ht;rw[if_neg ht]at x;exact hq _ _ _ x) ts h w
 | .loop c,Q,Q',hq,ts,h,w=>by
   obtain⟨k,w⟩:=w
   exact⟨k,Jn (fun K K' hK ts h x=>Co c (Q:=Da K Q) (fun e ts h y=>by cases e<;>first|exact hK _ _ y|exact hq _ _ _ y) ts h x) k ts h w⟩
 | .reg ops,Q,Q',hq,ts,h,w=>by
   simp only[HU]at w⊢
   exact Jg (hq .normal) w
 |.Ck ops ap,Q,Q',hq,ts,h,w=>Ei (K:=fun ts' h'=>Apart ap ts'/\Q .normal ts' h') (fun ts h x=>⟨x.1,hq _ _ _ x.2⟩) w
 | .range f ps n CB body x y,Q,Q',hq,ts,h,w=>by
   obtain⟨g,first,BL,e,a⟩:=w
   exact⟨g,first,BL,e,a.mono (Nat.le_refl _) fun v h' ⟨L,hL,hs,w⟩=>⟨L,hL,hs,hq _ _ _ w⟩⟩
 | .next x a b,Q,Q',hq,ts,h,w=>by
   obtain⟨r,m,since,seen,c0,es,clock,e1,hlo,hrm,hg,hgm,hold,hsc,hw0,hw1⟩:=w
   exact⟨r,m,since,seen,c0,es,clock,e1,hlo,hrm,hg,hgm,hold,hsc,fun h=>hq _ _ _ (hw0 h),fun e he hn=>hq _ _ _ (hw1 e he hn)⟩

def TabDOk (P:Program) (T:KT KFn):Prop:=∀g e,T.get g=some e->U0 P g e.n e.na e.A e.rs

def AllD (P:Program) (f:Nat->Nat):KT KFn->Prop
 |.nil=>True
 |.node l v r=>(∀e,v=some e->U0 P (f 0) e.n e.na e.A e.rs)/\AllD P (fun m=>f (2*m+1)) l/\AllD P (fun m=>f (2*m+2)) r
theorem Oj {P:Program}:∀{T:KT KFn} {f:Nat->Nat},AllD P f T->∀g e,T.get g=some e->U0 P (f g) e.n e.na e.A e.rs
 |.nil,f,_,g,e,h=>by rw[KT.get_nil]at h;exact nomatch h
 | .node l v r,f,⟨h0,hl,hr⟩,g,e,h=>by
   rw[KT.EU]at h
   by_cases g0:g=0
   ·subst g0;rw[if_pos rfl]at h;exact h0 e h
   ·rw[if_neg g0]at h
    by_cases g1:g%2=1
    ·rw[if_pos g1]at h
     have:=Oj hl _ e h
     rw[show 2* (g / 2)+1=g by omega]at this
     exact this
    ·rw[if_neg g1]at h
     have:=Oj hr _ e h
     rw[show 2* (g / 2 - 1)+2=g by omega]at this
     exact this
theorem allD_ok {P:Program}{T:KT KFn}(h:AllD P (fun m=>m) T):TabDOk P T:=fun g e he=>Oj h g e he


def kindEq:IntKind->IntKind->Bool
 |.i8,.i8|.i16,.i16|.i32,.i32|.i64,.i64|.u8,.u8|.u16,.u16|.u32,.u32|.u64,.u64=>true
 |_,_=>false
def intEq:Int->Int->Bool
 |.ofNat a,.ofNat b=>Nat.beq a b
 |.negSucc a,.negSucc b=>Nat.beq a b
 |_,_=>false
def listEq (f:Value->Value->Bool):List Value->List Value->Bool
 |[],[]=>true
 |a::as_,b::bs=>f a b&&listEq f as_ bs
 |_,_=>false
def eX (ih:Value->Value->Bool):Value->Value->Bool
 |.int k a,.int k' b=>kindEq k k'&&intEq a b
 |.bool true,.bool true=>true
 |.bool false,.bool false=>true
 |.tuple ⟨x⟩,.tuple ⟨y⟩=>listEq ih x y
 |.agg ⟨x⟩,.agg ⟨y⟩=>listEq ih x y
 |.slice none 0 0,.slice none 0 0=>true
 |.pointer none,.pointer none=>true
 |.map none,.map none=>true
 |.nilIface,.nilIface=>true
 |.nilFunc,.nilFunc=>true
 |_,_=>false
def veq:Nat->Value->Value->Bool
 |0=>fun _ _=>false
 |d+1=>eX (veq d)
theorem kindEq_out {k k':IntKind}(h:kindEq k k'=true):k=k':=by cases k<;>cases k'<;>first|rfl|exact absurd h (by decide)
theorem intEq_out {a b:Int}(h:intEq a b=true):a=b:=by
 cases a<;>cases b<;>simp only[intEq,Bool.false_eq_true]at h
 ·rw[Nat.eq_of_beq_eq_true h]
 ·rw[Nat.eq_of_beq_eq_true h]
theorem F6 {f:Value->Value->Bool}(hf:∀a b,f a b=true->a=b/\flat b=true):∀{x y:List Value},listEq f x y=true->x=y/\B7 y=true
 |[],[],_=>⟨rfl,rfl⟩
 | a::as_,b::bs,h=>by
   simp only[listEq,Bool.and_eq_true]at h
   obtain⟨rfl,h1⟩:=hf a b h.1
   obtain⟨rfl,h2⟩:=F6 hf h.2
   exact⟨rfl,by simp[B7,h1,h2]⟩
 |[],_::_,h=>by simp[listEq]at h
 |_::_,[],h=>by simp[listEq]at h
theorem Ya {ih:Value->Value->Bool}(hf:∀a b,ih a b=true->a=b/\flat b=true) {a b:Value}(h:eX ih a b=true):a=b/\flat b=true:=by
 unfold eX at h
 split at h
 ·simp only[Bool.and_eq_true]at h
  rw[kindEq_out h.1,intEq_out h.2]
  exact⟨rfl,rfl⟩
 ·exact⟨rfl,rfl⟩
 ·exact⟨rfl,rfl⟩
 ·obtain⟨rfl,h⟩:=F6 hf h
  exact⟨rfl,by simpa[flat]using h⟩
 ·obtain⟨rfl,h⟩:=F6 hf h
  exact⟨rfl,by simpa[flat]using h⟩
 ·exact⟨rfl,rfl⟩
 ·exact⟨rfl,rfl⟩
 ·exact⟨rfl,rfl⟩
 ·exact⟨rfl,rfl⟩
 ·exact⟨rfl,rfl⟩
 ·cases h
theorem veq_out:∀(d:Nat) {a b:Value},veq d a b=true->a=b/\flat b=true
 |0,_,_,h=>by cases h
 |d+1,a,b,h=>Ya (fun _ _=>veq_out d) h

theorem Jv.flat {P:Program}{g:FuncId}{h:H}{args:List Value}{v:Value}(a:Jv P g h.next h args fun w _=>w=v) (hv:AE.flat v=true) (lo:Nat) (hlo:lo<=h.next):AF P g lo h args v h:=by
 refine⟨Quiet.refl lo h,a.enters,fun I w k ia=>(a.calls I w k ia).mono ?_⟩
 rintro e w' ⟨v',h',J,rfl,q,W,iv,rfl⟩
 have i1:=Bi (J.below h.next) _ hv
 exact⟨J.below h.next,(W.ak k (Nat.le_refl _) (Nat.le_refl _) k.clean (fun r row hr hg=>.inr (.inl ⟨hr,hg⟩)) (fun r row hr hg=>.inr ((q.same r hr).trans hg))).mono hlo,i1.2,by rw[i1.1,(Bi J _ hv).1]⟩


def HV:Option Nat->Option Nat->Bool
 |none,none=>true
 |some a,some b=>Nat.beq a b
 |_,_=>false
theorem Lm {a b:Option Nat}(h:HV a b=true):a=b:=by
 cases a<;>cases b<;>simp only[HV,Bool.false_eq_true]at h
 ·rfl
 ·rw[Nat.eq_of_beq_eq_true h]
def X8 (n q:Nat) (ih:Value->Value->Bool):Value->Value->Bool
 |.tuple ⟨x⟩,.tuple ⟨y⟩=>listEq ih x y
 |.agg ⟨x⟩,.agg ⟨y⟩=>listEq ih x y
 |.slice (some ⟨b,o,s⟩) l c,.slice (some ⟨b',o',s'⟩) l' c'=>Nat.beq b q&&Nat.beq b' n&&Nat.beq o o'&&HV s s'&&Nat.beq l l'&&Nat.beq c c'&&not (Nat.ble far c)
 |a,b=>veq 1 a b
def aY (n q:Nat):Nat->Value->Value->Bool
 |0=>fun _ _=>false
 |d+1=>X8 n q (aY n q d)
theorem IL {n q:Nat}{J:Al}{f:Value->Value->Bool}(hf:∀a b,f a b=true->In J a->In (J.mv n q) b/\ren (J.mv n q) b=ren J a):∀{x y:List Value},listEq f x y=true->BH J x->BH (J.mv n q) y/\Ah (J.mv n q) y=Ah J x
 |[],[],_,_=>⟨trivial,rfl⟩
 | a::as_,b::bs,h,i=>by
   simp only[listEq,Bool.and_eq_true]at h
   have h1:=hf a b h.1 i.1
   have h2:=IL hf h.2 i.2
   exact⟨⟨h1.1,h2.1⟩,by simp only[Ah];rw[h1.2,h2.2]⟩
 |[],_::_,h,_=>by simp[listEq]at h
 |_::_,[],h,_=>by simp[listEq]at h
theorem Rw {n q:Nat}{J:Al}:∀(d:Nat) (a b:Value),aY n q d a b=true->In J a->In (J.mv n q) b/\ren (J.mv n q) b=ren J a
 |0,_,_,h,_=>by cases h
 | d +1,a,b,h,i=>by
   have ih:=Rw (n:=n) (q:=q) (J:=J) d
   have h:X8 n q (aY n q d) a b=true:=h
   unfold X8 at h
   split at h
   ·simp only[In]at i
    have:=IL ih h i
    simp only[In,ren]
    exact⟨this.1,by rw[this.2]⟩
   ·simp only[In]at i
    have:=IL ih h i
    simp only[In,ren]
    exact⟨this.1,by rw[this.2]⟩
   ·simp only[Bool.and_eq_true,Bool.not_eq_true']at h
    obtain⟨⟨⟨⟨⟨⟨e1,e2⟩,e3⟩,e4⟩,e5⟩,e6⟩,e7⟩:=h
    have hc:=(fun hle=>Bool.noConfusion ((Nat.ble_eq_true_of_le hle).symm.trans e7):¬far<=_)
    rw[Nat.eq_of_beq_eq_true e1]at i⊢
    rw[Nat.eq_of_beq_eq_true e3,Lm e4,Nat.eq_of_beq_eq_true e5]at i⊢
    rw[Nat.eq_of_beq_eq_true e2]
    rw[<-Nat.eq_of_beq_eq_true e6]
    have hc:=Nat.lt_of_not_le hc
    rw[B8 hc]at i⊢
    rw[BD hc,BD hc]
    simp only[Jt,C6,Cx,Bq,Al.Nz]at i⊢
    refine⟨⟨i.1,?_⟩,?_⟩
    ·have i2:=i.2
     split at i2
     ·exact i2
     ·simp only[Al.mv,if_true];exact i2
    ·simp only[Al.mv,if_true]
   ·obtain⟨rfl,hfl⟩:=veq_out 1 h
    have i1:=Bi (J.mv n q) _ hfl
    exact⟨i1.2,by rw[i1.1,(Bi J _ hfl).1]⟩
def LD (f:Value->Option Nat):List Value->Option Nat
 |[]=>none
 |a::as_=>match f a with|some q=>some q|none=>LD f as_
def ki (n:Nat) (ih:Value->Option Nat):Value->Option Nat
 |.slice (some ⟨b,_,_⟩) _ _=>bif Nat.ble n b then some b else none
 |.tuple ⟨x⟩=>LD ih x
 |.agg ⟨x⟩=>LD ih x
 |_=>none
def fE (n:Nat):Nat->Value->Option Nat
 |0=>fun _=>none
 |d+1=>ki n (fE n d)
def pZ (n q:Nat) (ih:Value->Value):Value->Value
 |.slice (some ⟨b,o,s⟩) l c=>bif Nat.beq b q then .slice (some ⟨n,o,s⟩) l c else .slice (some ⟨b,o,s⟩) l c
 |.tuple ⟨x⟩=>.tuple ⟨x.map ih⟩
 |.agg ⟨x⟩=>.agg ⟨x.map ih⟩
 |v=>v
def p5 (n q:Nat):Nat->Value->Value
 |0=>fun v=>v
 |d+1=>pZ n q (p5 n q d)
def natsEq:List Nat->List Nat->Bool
 |[],[]=>true
 |a::as_,b::bs=>Nat.beq a b&&natsEq as_ bs
 |_,_=>false
theorem natsEq_out:∀{x y:List Nat},natsEq x y=true->x=y
 |[],[],_=>rfl
 | a::as_,b::bs,h=>by
   simp only[natsEq,Bool.and_eq_true]at h
   rw[Nat.eq_of_beq_eq_true h.1,natsEq_out h.2]
 |[],_::_,h=>by simp[natsEq]at h
 |_::_,[],h=>by simp[natsEq]at h
def Qq:A9->Bool
 |.grow c _ _ _ _=>B7 c
 |.cells c _=>B7 c
 |_=>false
def isRow:A9->Option Fy->Bool
 |.grow c e sz lens valid,some (.row (.grow c' e' sz' lens' Tz))=>listEq (veq 6) c' c&&Nat.beq e' e&&Nat.beq sz' sz&&natsEq lens' lens&&Nat.beq Tz valid
 |.cells c e,some (.row (.cells c' e'))=>listEq (veq 6) c' c&&Nat.beq e' e
 |_,_=>false
theorem Xh {row:A9}{o:Option Fy}(h:isRow row o=true):o=some (.row row):=by
 unfold isRow at h
 split at h
 ·simp only[Bool.and_eq_true]at h
  obtain⟨⟨⟨⟨e1,e2⟩,e3⟩,e4⟩,e5⟩:=h
  have e1:=F6 (fun _ _=>veq_out 6) e1
  rw[e1.1,Nat.eq_of_beq_eq_true e2,Nat.eq_of_beq_eq_true e3,natsEq_out e4,Nat.eq_of_beq_eq_true e5]
 ·simp only[Bool.and_eq_true]at h
  have e1:=F6 (fun _ _=>veq_out 6) h.1
  rw[e1.1,Nat.eq_of_beq_eq_true h.2]
 ·cases h
theorem Px:∀{l:List Value},B7 l=true->∀v∈l,AE.flat v=true
 |[],_,_,hv=>nomatch hv
 | a::l,h,v,hv=>by
   simp only[B7,Bool.and_eq_true]at h
   rcases List.mem_cons.1 hv with rfl|hv
   ·exact h.1
   ·exact Px h.2 v hv
theorem ZY {J:Al}{n rs:Nat}{w:World}{c:List Value}{e:TypeId}(hc:B7 c=true) (k:Bw J rs w (.cells c e)):Bw (J.mv n rs) n w (.cells c e):=by
 obtain⟨b,e1,e2,e3⟩:=k.2
 have rl:∀I:Al,∀l:List Value,B7 l=true->BH I l/\Ah I l=l:=fun I l=>by
  induction l with
  |nil=>intro _;simp[BH,Ah]
  | cons x l ih=>
    intro h
    simp only[B7,Bool.and_eq_true]at h
    have a:=Bi I _ h.1
    have b:=ih h.2
    simp only[BH,Ah]
    exact⟨⟨a.2,b.1⟩,by rw[a.1,b.2]⟩
 refine⟨(rl _ c hc).1,b,Al.Nz.trans e1,e2,?_⟩
 rw[(rl _ c hc).2]
 rw[(rl J c hc).2]at e3
 exact e3
theorem Jv.me {P:Program}{g:FuncId}{h:H}{args:List Value}{v:Value}{nr:A9}
 (a:Jv P g h.next h args fun w h'=>∃q,h.next<=q/\(∀J:Al,In J w->In (J.mv h.next q) v/\ren (J.mv h.next q) v=ren J w)/\h'.get q=some nr) (hc:Qq nr=true) (lo:Nat) (hlo:lo<=h.next):
 AF P g lo h args v ((h.bump 1).put h.next nr):=by
 have old:∀r,r≠h.next->((h.bump 1).put h.next nr).get r=h.get r:=fun r hr=>by simp[H.put,H.bump,hr]
 have new:((h.bump 1).put h.next nr).get h.next=some nr:=by simp[H.put]
 have nx:((h.bump 1).put h.next nr).next=h.next+1:=rfl
 have cl:(∀r,h.next<=r->h.get r=none)->∀r,((h.bump 1).put h.next nr).next<=r->((h.bump 1).put h.next nr).get r=none:=fun hcl r hr=>by
  rw[nx]at hr
  rw[old r Af]
  exact hcl r Af
 refine⟨⟨by rw[nx];omega,fun r hr=>old r Af,cl⟩,a.enters,fun I w k ia=>(a.calls I w k ia).mono ?_⟩
 rintro _ w' ⟨v',h',J,⟨q,hq,hval,hrow⟩,uM,W,iv,rfl⟩
 obtain⟨i1,i2⟩:=hval J iv
 refine⟨J.mv h.next q,BR.mono ?_ hlo,i1,by rw[i2]⟩
 refine W.mv k (Nat.le_refl _) hq (by rw[nx];omega) (cl k.clean) (fun r row hr hg=>.inr ?_) fun row hr hd=>?_
 ·rw[old r Af]at hg
  exact⟨hg,(uM.same r hr).trans hg⟩
 ·rw[new]at hr
  cases hr
  obtain⟨s,p,ep⟩:=hd
  rw[Al.Nz]at ep
  have hk:=W.rel.rows q _ hrow ⟨s,p,ep⟩
  cases nr<;>first|(simp[Qq]at hc;done)|skip
  ·exact ZY hc hk
  ·exact cK (fun v hv I=>(Bi I _ (Px hc v hv)).symm) hk

inductive A7 where
 |code (lo:Nat) (A:Aj) (k:Exit->Dk->KH->Bool) (ts:Dk) (kh:KH)
 |loop (lo:Nat) (A:Aj) (k:Exit->Dk->KH->Bool) (ts:Dk) (kh:KH)
 |ops (lo:Nat) (base i:Nat) (ops:List Ao) (k:Dk->KH->Bool) (ts:Dk) (kh:KH)
 |call (lo:Nat) (fv:Value) (args:List Value) (kh:KH) (k:Value->KH->Bool)
 |fn (lo g:Nat) (args:List Value) (kh:KH) (k:Value->KH->Bool)
 |SK (lo g:Nat) (args:List Value) (kh:KH) (k:Value->KH->Bool)

section
variable (P:Program) (N7:AE.KerT.A7->Bool) (ih:A7->Bool) (lo:Nat) (k:Exit->Dk->KH->Bool) (ts:Dk) (kh:KH)
noncomputable def Zg (a b:Aj):Bool:=ih (.code lo a (fun e ts kh=>match e with|.normal=>ih (.code lo b k ts kh)|e=>k e ts kh) ts kh)
noncomputable def He (c:AP) (a b:Aj):Bool:=Ij ts c fun v=>match v with
 |.bool t=>Bool.rec (motive:=fun _=>Bool) (ih (.code lo b k ts kh)) (ih (.code lo a k ts kh)) t
 |_=>false
noncomputable def NK (id:Nat) (c:Aj):Bool:=ih (.code lo c (fun e ts kh=>match e with|.exit id'=>Bool.rec (motive:=fun _=>Bool) (k (.exit id') ts kh) (k .normal ts kh) (Nat.beq id' id)|e=>k e ts kh) ts kh)
noncomputable def Lr (ops:List Ao):Bool:=HX kh ops.length fun Bz=>ih (.ops lo kh.next 0 ops (fun ts kh=>k .normal ts kh) ts Bz)
noncomputable def G8 (ops:List Ao) (ap:List (AP × AP)):Bool:=HX kh ops.length fun Bz=>N7 (.ops lo true kh.next 0 ops (fun ts kh=>Bool.rec (motive:=fun _=>Bool) false (k .normal ts kh) (I6 ap (DR ts))) ts Bz)
noncomputable def Fb (f:AP) (ps:List Nat) (n:Nat) (CB body:Code):Bool:=Ij ts f fun v=>match v with
 | .func (.func g) ⟨first⟩ ⟨BL⟩=>KT.Dl (.loop .ready .none n ts ps CB body) 64 kh.rows kh.next fun rows=>HX ⟨kh.next,rows⟩ 1 fun Pm=>
  ih (.fn lo g (first++[.func (.yield kh.next) ⟨[]⟩ ⟨[]⟩]++BL) Pm fun _ QC=>match QC.rows.get kh.next with
   |some (.loop .busy _ _ _ _ _ _)=>false
   |some (.loop _ pd _ _ _ _ _)=>KT.Dl (.row .gone) 64 QC.rows kh.next fun rows=>k (F0 pd) ts ⟨QC.next,rows⟩
   |_=>false)
 |_=>false
noncomputable def Zd (r m since clock a b:Nat) (seen:List Nat) (es:List MapEntry):Bool:=
 List.rec (motive:=fun _=>Bool) true (fun e _ ih=>Bool.rec (motive:=fun _=>Bool) false ih (Bool.rec (motive:=fun _=>Bool) (FE kh r (.row (.iter m since (seen++[e.born]) clock)) fun Bz=>KT.Dl (.tuple #[.bool true,e.key,e.val]) 64 ts a fun ts=>KT.Dl (.bool true) 64 ts b fun ts=>k .normal ts Bz) true (seen.any (Nat.beq e.born)))) es
noncomputable def Uk (r m since clock a b:Nat) (seen:List Nat) (es:List MapEntry):Bool:=
 List.rec (motive:=fun _=>Bool) false (fun e _ ih=>Bool.rec (motive:=fun _=>Bool) (FE kh r (.row (.iter m since (seen++[e.born]) clock)) fun Bz=>KT.Dl (.tuple #[.bool true,e.key,e.val]) 64 ts a fun ts=>KT.Dl (.bool true) 64 ts b fun ts=>k .normal ts Bz) ih (seen.any (Nat.beq e.born))) es
noncomputable def Sr (fst:Bool) (x:AP) (a b:Nat):Bool:=Ij ts x fun v=>match v with
 | .pointer (some ⟨r,0,none⟩)=>(match kh.rows.get r with
   | some (.row (.iter m since seen c0))=>(match kh.rows.get m with
     | some (.row (.map es clock))=>Bool.rec (motive:=fun _=>Bool) false
      (Bool.rec (motive:=fun _=>Bool) (Bool.rec (motive:=fun _=>Bool) (Zd k ts kh r m since clock a b seen es) (Uk k ts kh r m since clock a b seen es) fst)
       (KT.Dl (.tuple #[.bool false]) 64 ts a fun ts=>KT.Dl (.bool false) 64 ts b fun ts=>k .normal ts kh) (es.all fun e=>seen.any (Nat.beq e.born)))
      (Nat.ble lo r&&not (Nat.beq r m)&&Nat.ble since c0&&es.all fun e=>Nat.ble (e.born+1) since)
     |_=>false)
   |_=>false)
 |_=>false
noncomputable def KF (fst:Bool) (A:Aj):Bool:=match A with
 |.skip=>k .normal ts kh
 |.ret=>k .ret ts kh
 |.exit id=>k (.exit id) ts kh
 |.seq a b=>Zg ih lo k ts kh a b
 |.cond c a b=>He ih lo k ts kh c a b
 |.block id c=>NK ih lo k ts kh id c
 |.loop c=>ih (.loop lo c k ts kh)
 |.reg ops=>Lr ih lo k ts kh ops
 |.Ck ops ap=>G8 N7 lo k ts kh ops ap
 |.range f ps n CB body _ _=>Fb ih lo k ts kh f ps n CB body
 |.next x a b=>Sr lo k ts kh fst x a b
end
section
variable (P:Program) (ih:A7->Bool) (lo:Nat)
noncomputable def QB (base i:Nat) (o:Ao) (rest:List Ao) (k:Dk->KH->Bool) (ts:Dk) (kh:KH):Bool:=match o.ins with
 |.op ao=>kO P lo (base+i) ts kh (fun v Bz=>OE v o.dst ts fun ts'=>ih (.ops lo base (i+1) rest k ts' Bz)) ao
 |.call f args=>Zb ts args fun args=>Ij ts f fun f=>ih (.call lo f args kh fun v Bz=>OE v o.dst ts fun ts'=>ih (.ops lo base (i+1) rest k ts' Bz))
noncomputable def Lp (base i:Nat) (ops:List Ao) (k:Dk->KH->Bool) (ts:Dk) (kh:KH):Bool:=match ops with
 |[]=>k ts kh
 |o::rest=>Bool.rec (motive:=fun _=>Bool) (OE undef o.dst ts fun ts'=>ih (.ops lo base (i+1) rest k ts' kh)) (QB P ih lo base i o rest k ts kh) (BF (DR ts) o.guard)
end
section
variable (P:Program) (ih:A7->Bool) (lo:Nat)
noncomputable def QD (r:Nat) (k:Value->KH->Bool) (e:Exit) (kh:KH):Bool:=match roundEnd e with
 |none=>false
 | some p=>match kh.rows.get r with
   |some (.loop _ _ size tmps ps CB body)=>FE kh r (.loop (Nq p) p size tmps ps CB body) fun kh=>k (.bool (Ku p)) kh
   |_=>false
noncomputable def HK (r:Nat) (B:Aj) (k:Value->KH->Bool) (e:Exit) (ts:Dk) (kh:KH):Bool:=match e with
 | .normal=>(match kh.rows.get r with
   |some (.loop .ready pd size tmps ps CB body)=>FE kh r (.loop .busy pd size tmps ps CB body) fun kh=>ih (.code lo B (fun e _ kh=>QD r k e kh) ts kh)
   |_=>false)
 |_=>false
noncomputable def HG (nd:List Nat) (lo:Nat) (r:Nat) (args:List Value) (kh:KH) (k:Value->KH->Bool):Bool:=match kh.rows.get r with
 | some (.loop _ _ size tmps ps CB body)=>Bool.rec (motive:=fun _=>Bool) false (match Cg P nd size false CB with
   |none=>false
   | some A=>match Cg P nd size false body with
     |none=>false
     |some B=>NJ (fun FG=>ih (.code lo A (HK ih lo r B k) FG kh)) ps args tmps) (Nat.ble lo r&&Nat.ble (r+1) kh.next&&Nat.beq args.length ps.length&&ps.all (fun p=>Nat.ble (p+1) size))
 |_=>false
noncomputable def G6 (nd:List Nat) (lo:Nat) (fv:Value) (args:List Value) (kh:KH) (k:Value->KH->Bool):Bool:=match fv with
 |.func (.func g) ⟨first⟩ ⟨BL⟩=>spine (first++args++BL) fun args=>ih (.fn lo g args kh k)
 | .func (.method nm) ⟨[.iface t v]⟩ ⟨[]⟩=>(match Pb P t nm with
   |some g=>ih (.fn lo g (v::args) kh k)
   |none=>false)
 |.func (.yield r) ⟨[]⟩ ⟨[]⟩=>HG P ih nd lo r args kh k
 |_=>false
noncomputable def QA (k:Value->KH->Bool) (rs:List ResultVar) (e:Exit) (ts:Dk) (kh:KH):Bool:=match e with
 |.normal=>Xd kh k (E1 P kh.abs (DR ts) rs)
 |.ret=>Xd kh k (E1 P kh.abs (DR ts) rs)
 |_=>false
noncomputable def Xe (e:KFn) (args:List Value) (kh:KH) (k:Value->KH->Bool):Bool:=Bool.rec (motive:=fun _=>Bool) false (Pl (fun FG=>ih (.code lo e.A (QA P k e.rs) FG kh)) args 0 .nil)
 (Nat.beq args.length e.na&&Nat.ble lo kh.next)
noncomputable def Xf (T T2:KT KFn) (g:Nat) (args:List Value) (kh:KH) (k:Value->KH->Bool):Bool:=match T.get g with
 | some e=>(match e.hook with
   |some F=>Bool.rec (motive:=fun _=>Bool) false (F args kh k) (Nat.ble lo kh.next)
   |none=>Xe P ih lo e args kh k)
 | none=>match T2.get g with
   |some e=>Xe P ih lo e args kh k
   |none=>false
end
noncomputable def Vw (ih:A7->Bool) (g:Nat) (args:List Value) (kh:KH) (k:Value->KH->Bool) (v:Value):Bool:=
 Bool.rec (motive:=fun _=>Bool) false (Bool.rec (motive:=fun _=>Bool) false (k v kh) (ih (.SK kh.next g args kh fun w _=>veq 6 w v))) (veq 6 v v)
noncomputable def Ze (n:Nat) (v:Value) (row:A9) (w:Value) (kh:KH):Bool:=match fE n 6 w with
 |some q=>Nat.ble n q&&aY n q 6 w v&&isRow row (kh.rows.get q)
 |none=>false
noncomputable def Vv (ih:A7->Bool) (g:Nat) (args:List Value) (kh:KH) (k:Value->KH->Bool) (v:Value) (o:Option Fy):Bool:=match o with
 |some (.row row)=>Bool.rec (motive:=fun _=>Bool) false (Bool.rec (motive:=fun _=>Bool) false (HX kh 1 fun Bz=>KT.Dl (.row row) 64 Bz.rows kh.next fun rows=>k v ⟨Bz.next,rows⟩)
  (ih (.SK kh.next g args kh (Ze kh.next v row)))) (Qq row)
 |_=>false
noncomputable def Ui (one ih:A7->Bool) (g:Nat) (args:List Value) (kh:KH) (k:Value->KH->Bool):Bool:=
 one (.SK kh.next g args kh fun v Pm=>match fE kh.next 6 v with
  |none=>Dn 6 v fun v=>Vw ih g args kh k v
  |some q=>Dn 6 (p5 kh.next q 6 v) fun v=>Vv ih g args kh k v (Pm.rows.get q))
noncomputable def JH (P:Program) (T T2:KT KFn) (nd mg:List Nat) (fst:Bool) (one:A7->Bool) (N7:AE.KerT.A7->Bool) (ih:A7->Bool) (t:A7):Bool:=match t with
 |.code lo A k ts kh=>KF N7 ih lo k ts kh fst A
 |.loop lo c k ts kh=>ih (.code lo c (fun e ts kh=>match e with|.normal=>ih (.loop lo c k ts kh)|e=>k e ts kh) ts kh)
 |.ops lo base i ops k ts kh=>Lp P ih lo base i ops k ts kh
 |.call lo fv args kh k=>G6 P ih nd lo fv args kh k
 |.fn lo g args kh k=>Bool.rec (motive:=fun _=>Bool) (ih (.SK lo g args kh k)) (Bool.rec (motive:=fun _=>Bool) false (Ui one ih g args kh k) (Nat.ble lo kh.next)) (mg.any (Nat.beq g))
 |.SK lo g args kh k=>Xf P ih lo T T2 g args kh k

noncomputable def Gy (P:Program) (T T2:KT KFn) (nd:List Nat) (D:Nat) (f:Nat):A7->Bool:=Nat.rec (motive:=fun _=>A7->Bool) (fun _=>false) (fun _ ih=>JH P T T2 nd [] true (fun _=>false) (AE.KerT.Cn P T D) ih) f
noncomputable def Cn (P:Program) (T T2:KT KFn) (nd mg:List Nat) (D:Nat) (f:Nat):A7->Bool:=Nat.rec (motive:=fun _=>A7->Bool) (fun _=>false) (fun _ ih=>JH P T T2 nd mg false (Gy P T T2 nd D D) (AE.KerT.Cn P T D) ih) f


def QK (k:Exit->Dk->KH->Bool):Exit->Ts->H->Prop:=fun e ts h=>∃tk hk,ts=DR tk/\h=hk.abs/\k e tk hk=true
def QT (k:Dk->KH->Bool):Ts->H->Prop:=fun ts h=>∃tk hk,ts=DR tk/\h=hk.abs/\k tk hk=true
def A7.Spec (P:Program) (f:Nat):A7->Prop
 |.code lo A k ts kh=>HU P lo A (QK k) (DR ts) kh.abs
 |.loop lo A k ts kh=>iter (fun K=>HU P lo A (Da K (QK k))) f (DR ts) kh.abs
 |.ops (lo) (base) (i) (xs) (k) (ts) (kh)=>RunD P lo base i xs (QT k) (DR ts) kh.abs
 |.call lo fv args kh k=>HS P fv lo kh.abs args fun v h'=>∃Bz,k v Bz=true/\h'=Bz.abs
 |.fn lo g args kh k=>Jv P g lo kh.abs args fun v h'=>∃Bz,k v Bz=true/\h'=Bz.abs
 |.SK lo g args kh k=>Jv P g lo kh.abs args fun v h'=>∃Bz,k v Bz=true/\h'=Bz.abs
def A7.Ex:A7->Prop
 |.code _ _ k _ _=>∃e ts kh,k e ts kh=true
 |.loop _ _ k _ _=>∃e ts kh,k e ts kh=true
 |.ops _ _ _ _ k _ _=>∃ts kh,k ts kh=true
 |.call _ _ _ _ k=>∃v kh,k v kh=true
 |.fn _ _ _ _ k=>∃v kh,k v kh=true
 |.SK _ _ _ _ k=>∃v kh,k v kh=true

theorem Qf {P:Program}{lo base:Nat}{q:Bool}{K:Ts->H->Prop}:∀{xs:List Ao} {i:Nat} {ts:Ts} {h:H},Run P lo q base i xs K ts h->∃ts h,K ts h
 |[],_,_,_,h=>⟨_,_,h⟩
 | o::rest,i,ts,h,hr=>by
   simp only[Run]at hr
   split at hr
   ·cases hi:o.ins with
    | op ao=>
      rw[hi]at hr
      obtain⟨v,h',ha,hr⟩:=hr
      exact Qf hr
    | call f args=>
      rw[hi]at hr
      obtain⟨v,h',ha,hr⟩:=hr
      exact Qf hr
   ·exact Qf hr

theorem Ss {r m since clock a b:Nat}{seen:List Nat}{k:Exit->Dk->KH->Bool}{ts:Dk}{kh:KH}:∀{es:List MapEntry},Uk k ts kh r m since clock a b seen es=true->∃e ts kh,k e ts kh=true
 |[],h=>by cases h
 | x ::es,h=>by
   have h:Bool.rec (motive:=fun _=>Bool) (FE kh r (.row (.iter m since (seen++[x.born]) clock)) fun Bz=>KT.Dl (.tuple #[.bool true,x.key,x.val]) 64 ts a fun ts=>KT.Dl (.bool true) 64 ts b fun ts=>k .normal ts Bz) (Uk k ts kh r m since clock a b seen es) (seen.any (Nat.beq x.born))=true:=h
   cases hs:seen.any (Nat.beq x.born)with
   |true=>rw[hs]at h;exact Ss h
   | false=>
     rw[hs]at h
     obtain⟨Bz,h, -⟩:=Ct h
     obtain⟨t1,h, -⟩:=KT.Bl 64 h
     obtain⟨t2,h, -⟩:=KT.Bl 64 h
     exact⟨_,_,_,h⟩

theorem Sq {P:Program}{T T2:KT KFn}{nd:List Nat}{D:Nat}(hm:P.follows .mixedOrders=true) (hT:TabOk P T):∀(f:Nat) (t:A7),Gy P T T2 nd D f t=true->t.Ex
 |0,t,h=>Bool.noConfusion h
 | f + 1, t, h=>by
   have ih:∀t,Gy P T T2 nd D f t=true->t.Ex:=Sq hm hT f
   have dt:∀t,AE.KerT.Cn P T D t=true->t.Spec P D:=AE.KerT.Cj hm hT D
   have h:JH P T T2 nd [] true (fun _=>false) (AE.KerT.Cn P T D) (Gy P T T2 nd D f) t=true:=h
   cases t with
   | loop lo c k ts kh=>
     obtain⟨e,FC,Pm,hh⟩:=(show∃e ts kh,_ from ih (.code ..) h)
     cases e with
     |normal=>have r:=ih _ hh;exact r
     |_=>exact⟨_,_,_,hh⟩
   | code lo A k ts kh=>
     have h:KF (AE.KerT.Cn P T D) (Gy P T T2 nd D f) lo k ts kh true A=true:=h
     cases A with
     |skip=>exact⟨_,_,_,h⟩
     |ret=>exact⟨_,_,_,h⟩
     |exit id=>exact⟨_,_,_,h⟩
     | seq a b=>
       obtain⟨e,FC,Pm,hh⟩:=(show∃e ts kh,_ from ih (.code ..) h)
       cases e with
       |normal=>have r:=ih _ hh;exact r
       |_=>exact⟨_,_,_,hh⟩
     | cond c a b=>
       have h:He (Gy P T T2 nd D f) lo k ts kh c a b=true:=h
       unfold He at h
       rw[BJ]at h
       split at h
       ·rename_i t hc
        cases t
        ·have r:=ih _ h;exact r
        ·have r:=ih _ h;exact r
       ·cases h
     | block id c=>
       obtain⟨e,FC,Pm,hh⟩:=(show∃e ts kh,_ from ih (.code ..) h)
       cases e with
       | exit id'=>
         simp only at hh
         cases hb:Nat.beq id' id<;>rw[hb]at hh<;>exact⟨_,_,_,hh⟩
       |_=>exact⟨_,_,_,hh⟩
     |loop c=>exact ih (.loop ..) h
     | reg ops=>
       have h:Lr (Gy P T T2 nd D f) lo k ts kh ops=true:=h
       unfold Lr at h
       obtain⟨Bz,h,e⟩:=CL h
       obtain⟨FC,Pm,hh⟩:=(show∃ts kh,_ from ih (.ops ..) h)
       exact⟨_,_,_,hh⟩
     | Ck ops ap=>
       have h:G8 (AE.KerT.Cn P T D) lo k ts kh ops ap=true:=h
       unfold G8 at h
       obtain⟨Bz,h,e⟩:=CL h
       have:=dt (.ops ..) h
       simp only[AE.KerT.A7.Spec,e]at this
       obtain⟨FC,h1,tk,hk,rfl,rfl,hh⟩:=Qf this
       simp only at hh
       cases ha:I6 ap (DR tk)with
       |false=>rw[ha]at hh;cases hh
       |true=>rw[ha]at hh;exact⟨_,_,_,hh⟩
     | range fv ps n CB body A B=>
       have h:Fb (Gy P T T2 nd D f) lo k ts kh fv ps n CB body=true:=h
       unfold Fb at h
       rw[BJ]at h
       split at h
       ·obtain⟨rows,h,hp⟩:=KT.Bl 64 h
        obtain⟨Pm,h,e1⟩:=CL h
        obtain⟨v,QC,h⟩:=(show∃v kh,_ from ih (.fn ..) h)
        split at h
        ·cases h
        ·obtain⟨rows',h,hp'⟩:=KT.Bl 64 h
         exact⟨_,_,_,h⟩
        ·cases h
       ·cases h
     | next x a b=>
       have h:Sr lo k ts kh true x a b=true:=h
       unfold Sr at h
       rw[BJ]at h
       split at h
       ·split at h
        ·rename_i m since seen c0 hg
         split at h
         ·rename_i es clock hgm
          generalize (Nat.ble lo _&&not (Nat.beq _ m)&&Nat.ble since c0&&es.all fun e=>Nat.ble (e.born+1) since)=c1 at h
          cases c1 with
          |false=>cases h
          | true=>
            simp only at h
            generalize (es.all fun e=>seen.any (Nat.beq e.born))=c2 at h
            cases c2 with
            |false=>exact Ss h
            | true=>
              obtain⟨t1,h,p1⟩:=KT.Bl 64 h
              obtain⟨t2,h,p2⟩:=KT.Bl 64 h
              exact⟨_,_,_,h⟩
         ·cases h
        ·cases h
       ·cases h
   | ops lo base i ops k ts kh=>
     have h:Lp P (Gy P T T2 nd D f) lo base i ops k ts kh=true:=h
     cases ops with
     |nil=>exact⟨_,_,h⟩
     | cons o rest=>
       unfold Lp at h
       simp only at h
       cases hw:BF (DR ts) o.guard with
       | false=>
         rw[hw]at h
         obtain⟨ts',h,e⟩:=Dw h
         have r:=ih _ h;exact r
       | true=>
         rw[hw]at h
         simp only at h
         unfold QB at h
         split at h
         ·obtain⟨v,Bz,h,ha⟩:=MG h
          obtain⟨ts',h,e⟩:=Dw h
          have r:=ih _ h;exact r
         ·rw[KE,BJ]at h
          obtain⟨v,Bz,h⟩:=(show∃v kh,_ from ih (.call ..) h)
          obtain⟨ts',h,e⟩:=Dw h
          have r:=ih _ h;exact r
   | call lo fv args kh k=>
     have h:G6 P (Gy P T T2 nd D f) nd lo fv args kh k=true:=h
     unfold G6 at h
     split at h
     ·rw[Fp]at h
      exact ih (.fn ..) h
     ·split at h
      ·exact ih (.fn ..) h
      ·cases h
     ·rename_i r _ _
      unfold HG at h
      split at h
      ·rename_i st pd size tmps ps CB body hg
       generalize (Nat.ble lo r&&Nat.ble (r+1) kh.next&&Nat.beq args.length ps.length&&ps.all (fun p=>Nat.ble (p+1) size))=c1 at h
       cases c1 with
       |false=>cases h
       | true =>
         simp only at h
         split at h
         ·cases h
         ·split at h
          ·cases h
          ·obtain⟨FG,h,e0⟩:=F7 h
           obtain⟨e,FC,Pm,hh⟩:=(show∃e ts kh,_ from ih (.code ..) h)
           unfold HK at hh
           cases e<;>first|(cases hh;done)|skip
           simp only at hh
           split at hh
           ·obtain⟨k1',hh,ep⟩:=Ct hh
            obtain⟨e2,Wm,QC,hh⟩:=(show∃e ts kh,_ from ih (.code ..) hh)
            unfold QD at hh
            split at hh
            ·cases hh
            ·split at hh
             ·obtain⟨k2',hh,jK⟩:=Ct hh
              exact⟨_,_,hh⟩
             ·cases hh
           ·cases hh
      ·cases h
     ·cases h
   |fn lo g args kh k=>exact ih (.SK ..) h
   | SK lo g args kh k=>
     have h:Xf P (Gy P T T2 nd D f) lo T T2 g args kh k=true:=h
     have fin:∀e:KFn,Xe P (Gy P T T2 nd D f) lo e args kh k=true->∃v kh,k v kh=true:=fun e h=>by
      unfold Xe at h
      cases hc:(Nat.beq args.length e.na&&Nat.ble lo kh.next)with
      |false=>rw[hc]at h;cases h
      | true=>
        rw[hc]at h
        simp only at h
        obtain⟨t0,h,e0⟩:=FT h
        obtain⟨e1,FC,Pm,hh⟩:=(show∃e ts kh,_ from ih (.code ..) h)
        unfold QA at hh
        cases e1<;>first|(cases hh;done)|skip
        all_goals
         obtain⟨v,hv,hh⟩:=FL hh
         exact⟨_,_,hh⟩
     unfold Xf at h
     split at h
     ·rename_i e he
      have F:=hT g e he
      unfold AE.KerT.FnOk at F
      split at h
      ·rename_i X hX
       simp only[hX]at F
       cases hc:Nat.ble lo kh.next with
       |false=>rw[hc]at h;cases h
       | true=>
         rw[hc]at h
         obtain⟨v,Bz,hk,_⟩:=F lo args kh k h (Nat.le_of_ble_eq_true hc)
         exact⟨v,Bz,hk⟩
      ·exact fin _ h
     ·split at h
      ·exact fin _ h
      ·cases h

theorem Pn {r m since clock a b:Nat}{seen:List Nat}{k:Exit->Dk->KH->Bool}{ts:Dk}{kh:KH}:∀{es:List MapEntry},Zd k ts kh r m since clock a b seen es=true->∀e∈es,e.born∉seen->
 QK k .normal (GL (GL (DR ts) a (.tuple #[.bool true,e.key,e.val])) b (.bool true)) (kh.abs.put r (.iter m since (seen++[e.born]) clock))
 |[],h,e,he,_=>nomatch he
 | x :: es,h,e,he,hn=>by
   have h:Bool.rec (motive:=fun _=>Bool) false (Zd k ts kh r m since clock a b seen es) (Bool.rec (motive:=fun _=>Bool) (FE kh r (.row (.iter m since (seen++[x.born]) clock)) fun Bz=>KT.Dl (.tuple #[.bool true,x.key,x.val]) 64 ts a fun ts=>KT.Dl (.bool true) 64 ts b fun ts=>k .normal ts Bz) true (seen.any (Nat.beq x.born)))=true:=h
   generalize hq:Bool.rec (motive:=fun _=>Bool) (FE kh r (.row (.iter m since (seen++[x.born]) clock)) fun Bz=>KT.Dl (.tuple #[.bool true,x.key,x.val]) 64 ts a fun ts=>KT.Dl (.bool true) 64 ts b fun ts=>k .normal ts Bz) true (seen.any (Nat.beq x.born))=q at h
   cases q with
   |false=>cases h
   | true=>
     rcases List.mem_cons.1 he with rfl|he
     ·cases hs:seen.any (Nat.beq e.born)with
      | true=>
        exfalso
        obtain⟨y,hy,hb⟩:=List.any_eq_true.1 hs
        have:=Nat.eq_of_beq_eq_true hb
        subst this
        exact hn hy
      | false=>
        rw[hs]at hq
        obtain⟨Bz,hq,e1⟩:=Ct hq
        obtain⟨t1,hq,p1⟩:=KT.Bl 64 hq
        obtain⟨t2,hq,p2⟩:=KT.Bl 64 hq
        refine⟨t2,Bz,?_,?_,hq⟩
        ·rw[HJ p2,HJ p1]
        ·rw[e1];rfl
     ·exact Pn h e he hn

theorem Cj {P:Program}{T T2:KT KFn}{nd mg:List Nat}{D:Nat}(hm:P.follows .mixedOrders=true) (hT:TabOk P T) (ZC:TabDOk P T2):∀(f:Nat) (t:A7),Cn P T T2 nd mg D f t=true->t.Spec P f
 |0,t,h=>Bool.noConfusion h
 | f + 1, t, h =>by
   have ih:∀t,Cn P T T2 nd mg D f t=true->t.Spec P f:=Cj hm hT ZC f
   have dt:∀t,AE.KerT.Cn P T D t=true->t.Spec P D:=AE.KerT.Cj hm hT D
   have h:JH P T T2 nd mg false (Gy P T T2 nd D D) (AE.KerT.Cn P T D) (Cn P T T2 nd mg D f) t=true:=h
   cases t with
   | loop lo c k ts kh=>
     refine Co c ?_ _ _ (show HU P _ _ (QK _) _ _ from ih (.code ..) h)
     rintro e ts' h' ⟨tk,hk,rfl,rfl,hh⟩
     cases e with
     |normal=>exact ih _ hh
     |_=>exact⟨tk,hk,rfl,rfl,hh⟩
   | code lo A k ts kh=>
     have h:KF (AE.KerT.Cn P T D) (Cn P T T2 nd mg D f) lo k ts kh false A=true:=h
     cases A with
     |skip=>exact⟨ts,kh,rfl,rfl,h⟩
     |ret=>exact⟨ts,kh,rfl,rfl,h⟩
     |exit id=>exact⟨ts,kh,rfl,rfl,h⟩
     | seq a b=>
       refine Co a ?_ _ _ (show HU P _ _ (QK _) _ _ from ih (.code ..) h)
       rintro e ts' h' ⟨tk,hk,rfl,rfl,hh⟩
       cases e with
       |normal=>exact ih _ hh
       |_=>exact⟨tk,hk,rfl,rfl,hh⟩
     | cond c a b=>
       have h:He (Cn P T T2 nd mg D f) lo k ts kh c a b=true:=h
       unfold He at h
       rw[BJ]at h
       split at h
       ·rename_i t hc
        refine⟨t,hc,?_⟩
        cases t
        ·rw[if_neg (by simp)];exact ih _ h
        ·rw[if_pos rfl];exact ih _ h
       ·cases h
     | block id c=>
       refine Co c ?_ _ _ (show HU P _ _ (QK _) _ _ from ih (.code ..) h)
       rintro e ts' h' ⟨tk,hk,rfl,rfl,hh⟩
       cases e with
       | exit id'=>
         simp only[C9]
         simp only[EW beq_iff]at hh
         by_cases he:id'=id
         ·rw[if_pos he]
          rw[if_pos he]at hh
          exact⟨tk,hk,rfl,rfl,hh⟩
         ·rw[if_neg he]
          rw[if_neg he]at hh
          exact⟨tk,hk,rfl,rfl,hh⟩
       |_=>exact⟨tk,hk,rfl,rfl,hh⟩
     |loop c=>exact⟨f,ih (.loop ..) h⟩
     | reg ops=>
       have h:Lr (Cn P T T2 nd mg D f) lo k ts kh ops=true:=h
       unfold Lr at h
       obtain⟨Bz,h,e⟩:=CL h
       simp only[A7.Spec,HU]
       have:=ih (.ops ..) h
       simp only[A7.Spec,e]at this
       exact this
     | Ck ops ap=>
       have h:G8 (AE.KerT.Cn P T D) lo k ts kh ops ap=true:=h
       unfold G8 at h
       obtain⟨Bz,h,e⟩:=CL h
       have:=dt (.ops ..) h
       simp only[AE.KerT.A7.Spec,e]at this
       refine Ei ?_ this
       rintro ts' h' ⟨tk,hk,rfl,rfl,hh⟩
       simp only at hh
       cases ha:I6 ap (DR tk)with
       |false=>rw[ha]at hh;cases hh
       | true=>
         rw[ha]at hh
         exact⟨J8 ha,tk,hk,rfl,rfl,hh⟩
     | range fv ps n CB body A B=>
       have h:Fb (Cn P T T2 nd mg D f) lo k ts kh fv ps n CB body=true:=h
       unfold Fb at h
       rw[BJ]at h
       split at h
       ·rename_i g first BL hv
        obtain⟨rows,h,hp⟩:=KT.Bl 64 h
        obtain⟨Pm,h,e1⟩:=CL h
        have a:=ih (.fn ..) h
        simp only[A7.Spec]at a
        refine⟨g,first,BL,hv,?_⟩
        have e2:Pm.abs=kh.abs.enter (FD n (DR ts) ps CB body):=by
         rw[e1,KH.FO hp]
         rfl
        rw[<-e2]
        refine a.mono (Nat.le_refl _) ?_
        rintro v h' ⟨QC,h,rfl⟩
        split at h
        ·cases h
        ·rename_i st pd _ _ _ _ _ hne hg
         obtain⟨rows',h,hp'⟩:=KT.Bl 64 h
         refine⟨_,JS hg,?_,ts,_,rfl,?_,h⟩
         ·intro he
          exact hne he
         ·rw[KH.FO hp']
          rfl
        ·cases h
       ·cases h
     | next x a b=>
       have h:Sr lo k ts kh false x a b=true:=h
       unfold Sr at h
       rw[BJ]at h
       split at h
       ·rename_i r hv
        split at h
        ·rename_i m since seen c0 hg
         split at h
         ·rename_i es clock hgm
          cases hc:(Nat.ble lo r&&not (Nat.beq r m)&&Nat.ble since c0&&es.all fun e=>Nat.ble (e.born+1) since)with
          |false=>rw[hc]at h;cases h
          | true=>
            rw[hc]at h
            simp only[Bool.and_eq_true,Bool.not_eq_true']at hc
            obtain⟨⟨⟨c1,c2⟩,c3⟩,c4⟩:=hc
            simp only at h
            have all:∀e∈es,(seen.any (Nat.beq e.born)=true↔e.born∈seen):=fun e _=>by
             rw[List.any_eq_true]
             constructor
             ·rintro⟨y,hy,hb⟩
              rw[Nat.eq_of_beq_eq_true hb];exact hy
             ·exact fun hm=>⟨_,hm,Nat.beq_refl _⟩
            refine⟨r,m,since,seen,c0,es,clock,hv,Nat.le_of_ble_eq_true c1,(fun e=>by subst e;rw[Nat.beq_refl]at c2;exact Bool.noConfusion c2),JS hg,JS hgm,fun e he=>Nat.le_of_ble_eq_true (List.all_eq_true.1 c4 e he),Nat.le_of_ble_eq_true c3,fun hs=>?_,fun e he hn=>?_⟩
            ·have:(es.all fun e=>seen.any (Nat.beq e.born))=true:=List.all_eq_true.2 fun e he=>(all e he).2 (hs e he)
             rw[this]at h
             obtain⟨t1,h,p1⟩:=KT.Bl 64 h
             obtain⟨t2,h,p2⟩:=KT.Bl 64 h
             exact⟨t2,kh,by rw[HJ p2,HJ p1],rfl,h⟩
            ·have:(es.all fun e=>seen.any (Nat.beq e.born))=false:=by
              cases ha:(es.all fun e=>seen.any (Nat.beq e.born))with
              |false=>rfl
              |true=>exact absurd ((all e he).1 (List.all_eq_true.1 ha e he)) hn
             rw[this]at h
             exact Pn h e he hn
         ·cases h
        ·cases h
       ·cases h
   | ops lo base i ops k ts kh=>
     have h:Lp P (Cn P T T2 nd mg D f) lo base i ops k ts kh=true:=h
     cases ops with
     |nil=>exact⟨ts,kh,rfl,rfl,h⟩
     | cons o rest=>
       simp only[A7.Spec,RunD]
       unfold Lp at h
       simp only at h
       cases hw:BF (DR ts) o.guard with
       | false=>
         rw[hw]at h
         rw[if_neg (by simp)]
         obtain⟨ts',h,e⟩:=Dw h
         rw[<-e]
         exact ih _ h
       | true=>
         rw[hw]at h
         rw[if_pos rfl]
         simp only at h
         unfold QB at h
         split at h
         ·rename_i ao hi
          obtain⟨v,Bz,h,ha⟩:=MG h
          obtain⟨ts',h,e⟩:=Dw h
          rw[hi]
          refine⟨v,_,ha,?_⟩
          rw[<-e]
          exact ih _ h
         ·rename_i fv args hi
          rw[KE,BJ]at h
          have ha:=ih (.call ..) h
          simp only[A7.Spec]at ha
          rw[hi]
          refine ha.mono (Nat.le_refl _) ?_
          rintro v h' ⟨Bz,h,rfl⟩
          obtain⟨ts',h,e⟩:=Dw h
          rw[<-e]
          exact ih _ h
   | call lo fv args kh k=>
     have h:G6 P (Cn P T T2 nd mg D f) nd lo fv args kh k=true:=h
     unfold G6 at h
     split at h
     ·rename_i g first BL
      rw[Fp]at h
      have a:=ih (.fn ..) h
      simp only[A7.Spec]at a
      exact a.ju
     ·split at h
      ·rename_i g hm
       have a:=ih (.fn ..) h
       simp only[A7.Spec]at a
       exact Jv.method hm a
      ·cases h
     ·rename_i r _ _
      unfold HG at h
      split at h
      ·rename_i st pd size tmps ps CB body hg
       cases hc:(Nat.ble lo r&&Nat.ble (r+1) kh.next&&Nat.beq args.length ps.length&&ps.all (fun p=>Nat.ble (p+1) size))with
       |false=>rw[hc]at h;cases h
       | true =>
         rw[hc]at h
         simp only at h
         simp only[Bool.and_eq_true]at hc
         obtain⟨⟨⟨c1,c2⟩,c3⟩,c4⟩:=hc
         split at h
         ·cases h
         ·rename_i A hA
          split at h
          ·cases h
          ·rename_i B hB
           obtain⟨FG,h,e0⟩:=F7 h
           have hy:nB P lo r A B ⟨st,pd,size,DR tmps,ps,CB,body⟩ args kh.abs (fun v h'=>∃Bz,k v Bz=true/\h'=Bz.abs):=by
            unfold nB
            simp only
            rw[<-e0]
            refine Co A ?_ _ _ (show HU P _ _ (QK _) _ _ from ih (.code ..) h)
            rintro e FC h1 ⟨t1,k1,rfl,rfl,hh⟩
            unfold HK at hh
            cases e<;>first|(cases hh;done)|skip
            simp only at hh
            split at hh
            ·rename_i rJ dN U6 ps1 mL body1 hg1
             obtain⟨k1',hh,ep⟩:=Ct hh
             refine⟨rfl,_,JS hg1,rfl,?_⟩
             have hi:=ih (.code ..) hh
             simp only[A7.Spec,ep]at hi
             refine Co B ?_ _ _ hi
             rintro e2 Wm h2 ⟨t2,k2,rfl,rfl,hh⟩
             unfold QD at hh
             simp only at hh
             split at hh
             ·cases hh
             ·rename_i p hre
              split at hh
              ·rename_i hg2
               obtain⟨k2',hh,jK⟩:=Ct hh
               refine⟨p,_,hre,JS hg2,_,hh,?_⟩
               rw[jK]
               rfl
              ·cases hh
            ·cases hh
           exact nB.call hm hA hB (JS hg) (Nat.le_of_ble_eq_true c1) (Nat.le_of_ble_eq_true c2) (Nat.eq_of_beq_eq_true c3)
            (List.all_eq_true.2 fun p hp=>decide_eq_true (Nat.le_of_ble_eq_true (List.all_eq_true.1 c4 p hp))) hy
      ·cases h
     ·cases h
   | fn lo g args kh k=>
     have h:Bool.rec (motive:=fun _=>Bool) (Cn P T T2 nd mg D f (.SK lo g args kh k)) (Bool.rec (motive:=fun _=>Bool) false (Ui (Gy P T T2 nd D D) (Cn P T T2 nd mg D f) g args kh k) (Nat.ble lo kh.next)) (mg.any (Nat.beq g))=true:=h
     cases hg:mg.any (Nat.beq g)with
     |false=>rw[hg]at h;exact ih (.SK ..) h
     | true =>
       rw[hg]at h
       simp only at h
       cases hl:Nat.ble lo kh.next with
       |false=>rw[hl]at h;cases h
       | true =>
         rw[hl]at h
         simp only at h
         unfold Ui at h
         obtain⟨v,Bz,h⟩:=(show∃v kh,_ from Sq hm hT D (.SK ..) h)
         split at h
         ·rw [Cu]at h
          unfold Vw at h
          cases h1:veq 6 v v with
          |false=>rw[h1]at h;cases h
          | true=>
            rw[h1]at h
            simp only at h
            cases h2:Cn P T T2 nd mg D f (.SK kh.next g args kh fun w _=>veq 6 w v)with
            |false=>rw[h2]at h;cases h
            | true=>
              rw[h2]at h
              have a:=ih (.SK ..) h2
              simp only[A7.Spec]at a
              exact(Jv.flat (AE.Jv.mono a (Nat.le_refl _) fun w h' ⟨Bz,hv,_⟩=>(veq_out 6 hv).1) (veq_out 6 h1).2 lo (Nat.le_of_ble_eq_true hl)).nT ⟨kh,h,rfl⟩
         ·rw [Cu]at h
          generalize p5 kh.next _ 6 v=v1 at h
          unfold Vv at h
          split at h
          ·rename_i row _
           cases h1:Qq row with
           |false=>rw[h1]at h;cases h
           | true=>
             rw[h1]at h
             simp only at h
             cases h2:Cn P T T2 nd mg D f (.SK kh.next g args kh (Ze kh.next v1 row))with
             |false=>rw[h2]at h;cases h
             | true=>
               rw[h2]at h
               simp only at h
               obtain⟨Bz,h,eb⟩:=CL h
               obtain⟨rows,h,hp⟩:=KT.Bl 64 h
               have a:=ih (.SK ..) h2
               simp only[A7.Spec]at a
               refine(Jv.me (h:=kh.abs) (v:=v1) (nr:=row) (AE.Jv.mono a (Nat.le_refl _) fun w h' ⟨QC,hv,he⟩=>?_) h1 lo (Nat.le_of_ble_eq_true hl)).nT ⟨⟨Bz.next,rows⟩,h,?_⟩
               ·unfold Ze at hv
                split at hv
                ·rename_i q _
                 simp only[Bool.and_eq_true]at hv
                 obtain⟨⟨c1,c2⟩,c3⟩:=hv
                 refine⟨q,Nat.le_of_ble_eq_true c1,fun J i=>Rw 6 w v1 c2 i,?_⟩
                 rw[he]
                 exact JS (Xh c3)
                ·cases hv
               ·rw[KH.FO hp,eb]
                rfl
          ·cases h
   | SK lo g args kh k=>
     have h:Xf P (Cn P T T2 nd mg D f) lo T T2 g args kh k=true:=h
     have fin:∀e:KFn,(∀{R:Value->H->Prop},args.length=e.na->lo<=kh.abs.next->HU P lo e.A (fun e' ts h'=>(e'= .normal\/e'= .ret)/\∃v,E1 P h' ts e.rs=some v/\R v h') (FG args) kh.abs->Jv P g lo kh.abs args R)->Xe P (Cn P T T2 nd mg D f) lo e args kh k=true->Jv P g lo kh.abs args fun v h'=>∃Bz,k v Bz=true/\h'=Bz.abs:=fun e F h=>by
      unfold Xe at h
      cases hc:(Nat.beq args.length e.na&&Nat.ble lo kh.next)with
      |false=>rw[hc]at h;cases h
      | true=>
        rw[hc]at h
        simp only at h
        simp only[Bool.and_eq_true]at hc
        obtain⟨c1,c2⟩:=hc
        obtain⟨t0,h,e0⟩:=FT h
        have et:DR t0=FG args:=by
         funext m
         rw[e0]
         simp only[Nat.not_lt_zero,if_false,Nat.sub_zero,FG]
         cases args[m]? <;>rfl
        have hw:=ih (.code ..) h
        simp only[A7.Spec,et]at hw
        refine F (Nat.eq_of_beq_eq_true c1) (Nat.le_of_ble_eq_true c2) (Co e.A ?_ _ _ hw)
        rintro e ts' h' ⟨tk,hk,rfl,rfl,hh⟩
        unfold QA at hh
        cases e<;>first|(cases hh;done)|skip
        all_goals
         obtain⟨v,hv,hh⟩:=FL hh
         exact⟨by simp,v,hv,hk,hh,rfl⟩
     unfold Xf at h
     split at h
     ·rename_i e he
      have F:=hT g e he
      unfold AE.KerT.FnOk at F
      split at h
      ·rename_i X hX
       simp only[hX]at F
       cases hc:Nat.ble lo kh.next with
       |false=>rw[hc]at h;cases h
       | true=>
         rw[hc]at h
         obtain⟨v,Bz,hk,a⟩:=F lo args kh k h (Nat.le_of_ble_eq_true hc)
         exact a.nT ⟨Bz,hk,rfl⟩
      ·rename_i hX
       simp only[hX]at F
       exact fin e (fun a b c=>F.toD.VU a b c) h
     ·split at h
      ·rename_i e he
       exact fin e (fun a b c=>(ZC g e he).VU a b c) h
      ·cases h


theorem Jv.alone {P:Program}{g:FuncId}{args:List Value}{v:Value}(a:Jv P g 0 H.empty args fun w _=>w=v) (ha:∀I,Ah I args=args/\BH I args) (hv:∀I,ren I v=v/\In I v) (lo:Nat) (h:H):AF P g lo h args v h:=by
 refine⟨Quiet.refl lo h,a.enters,fun I w k ia=>?_⟩
 have k0:Rel ⟨fun _ _=>none,fun _ _=>0,I.base⟩ H.empty w:=
  ⟨(fun r row e _=>nomatch e),(fun r d=>nomatch d.choose_spec.choose_spec),(fun r s b d e=>nomatch e),k.base,k.tabs,(fun r r' s s' b d d' e=>nomatch e),fun _ _=>rfl⟩
 have hc:=a.calls ⟨fun _ _=>none,fun _ _=>0,I.base⟩ w k0 (ha _).2
 rw[(ha _).1]at hc
 rw[(ha I).1]
 refine hc.mono ?_
 rintro e w' ⟨v',h',J,rfl,hq,W,iv,rfl⟩
 have hb:∀b,b<w.heap.size->w'.heap[b]? =w.heap[b]? :=fun b hb=>W.ext.block b hb (fun r s d e=>nomatch e)
 refine⟨I,⟨BA.refl I w,fun _ d=>.inl d,fun _ _ _ _ e=>e,⟨fun r row hr d=>(k.rows r row hr d).le (Le.refl I) (fun _ _ e=>e) (fun b ⟨s,d,e⟩=>hb b (k.size _ _ _ _ e)),k.lt,fun r s b d e=>Nat.lt_of_lt_of_le (k.size r s b d e) W.ext.size,Nat.le_trans k.base W.ext.size,k.tabs.same (fun b h1=>hb b (Nat.lt_of_lt_of_le h1 k.base)),k.inj,k.clean⟩,
  ⟨W.ext.os,W.ext.tape,W.ext.output,W.ext.size,fun b hlt _=>hb b hlt⟩⟩,(hv I).2,by rw[(hv I).1,(hv J).1]⟩

noncomputable def CG (P:Program) (T T2:KT KFn) (nd mg:List Nat) (D f g:Nat):Bool:=Cn P T T2 nd mg D f (.fn 0 g [] ⟨0,.nil⟩ fun v _=>isTrue v)
theorem El {P:Program}{T T2:KT KFn}{nd mg:List Nat}(hm:P.follows .mixedOrders=true) (hT:TabOk P T) (ZC:TabDOk P T2) {D f g:Nat}(he:CG P T T2 nd mg D f g=true) {lo:Nat}{h:H}:AW P g lo h [] (fun v h'=>v= .bool true/\h'=h):=by
 have a:=Cj hm hT ZC f _ he
 simp only[A7.Spec]at a
 exact⟨_,h,⟨rfl,rfl⟩,Jv.alone (AE.Jv.mono a (Nat.le_refl _) fun v h' ⟨Bz,hv,_⟩=>JU hv) (fun I=>⟨rfl,trivial⟩) (fun I=>⟨by simp[ren],by simp[In]⟩) lo h⟩
end AE.KerD

/- The tables of AEKerT and AEKerD out of the program itself: no code is printed. -/
set_option linter.unusedVariables false
namespace AE.KerP
open Go AE
open AE.KerT (KFn TabOk AllT allT_ok HookOk FnOk)
abbrev Hr:=Nat->Option (List Value->KH->(Value->KH->Bool)->Bool)
def Fl (P:Program) (X:Hr):Prop:=∀g F,X g=some F->HookOk P g F
def Vn:Hr:=fun _=>none
theorem E9 {P:Program}:Fl P Vn:=fun _ _ h=>nomatch h
open AE.KerD (TabDOk AllD allD_ok)

noncomputable def mk (P:Program) (cc:Nat->Code->Option Aj) (g:Nat):Option KFn:=
 match P.funcs[g]? with
 |none=>none
 | some fn=>match fn.body with
   |none=>none
   | some c=>match cc fn.ntmps c with
     |none=>none
     |some A=>if fn.params.size+fn.nfree<=fn.ntmps/\(fn.name== "runtime.NumGoroutine")=false then some {n:=fn.ntmps,na:=fn.params.size+fn.nfree,A:=A,rs:=fn.results.toList}else none
theorem Vr {P:Program}{cc:Nat->Code->Option Aj}{g:Nat}{e:KFn}(h:mk P cc g=some e):
 ∃fn c,P.funcs[g]? =some fn/\fn.body=some c/\fn.ntmps=e.n/\e.na<=e.n/\fn.results=⟨e.rs⟩/\cc e.n c=some e.A/\(fn.name== "runtime.NumGoroutine")=false/\e.hook=none:=by
 unfold mk at h
 split at h
 ·cases h
 ·rename_i fn hf
  split at h
  ·cases h
  ·rename_i c hc
   split at h
   ·cases h
   ·rename_i A hA
    split at h
    ·rename_i hb
     cases h
     exact⟨fn,c,hf,hc,rfl,hb.1,rfl,hA,hb.2,rfl⟩
    ·cases h

noncomputable def tree (v:Nat->Option KFn):Nat->Nat->Nat->KT KFn
 |0,_,_=>.nil
 |d+1,mul,add=>.node (tree v d (2*mul) (mul+add)) (v add) (tree v d (2*mul) (2*mul+add))
theorem kZ (mul add:Nat):(fun m=>mul* (2*m+1)+add)=fun m=>2*mul*m+(mul+add):=by
 funext m;rw[Nat.mul_add,Nat.mul_one,<-Nat.mul_assoc,Nat.mul_comm mul 2,Nat.add_assoc]
theorem kY (mul add:Nat):(fun m=>mul* (2*m+2)+add)=fun m=>2*mul*m+(2*mul+add):=by
 funext m;rw[Nat.mul_add,<-Nat.mul_assoc,Nat.mul_comm mul 2,Nat.add_assoc]

noncomputable def one (P:Program) (nd:List Nat) (X:Hr) (g:Nat):Option KFn:=match X g with
 |some F=>some {n:=0,na:=0,A:=.skip,rs:=[],hook:=some F}
 |none=>bif nd.elem g then none else mk P (fun n c=>E2 P n true c) g
noncomputable def many (P:Program) (nd:List Nat) (g:Nat):Option KFn:=bif nd.elem g then mk P (fun n c=>Cg P nd n true c) g else none
theorem allT {P:Program}(hm:P.follows .mixedOrders=true) (nd:List Nat) {X:Hr}(hX:Fl P X):∀d mul add,AllT P (fun m=>mul*m+add) (tree (one P nd X) d mul add)
 |0,_,_=>trivial
 | d +1,mul,add=>by
   refine⟨fun e h=>?_,?_,?_⟩
   ·have h':(match X add with
     |some F=>some {n:=0,na:=0,A:=.skip,rs:=[],hook:=some F}
     |none=>bif nd.elem add then none else mk P (fun n c=>E2 P n true c) add)=some e:=h
    show FnOk P (mul*0+add) e
    rw[Nat.mul_zero,Nat.zero_add]
    split at h'
    ·rename_i F hF
     cases h'
     exact hX _ _ hF
    ·cases hb:nd.elem add<;>simp only[hb,cond_true,cond_false]at h'
     ·obtain⟨fn,c,h1,h2,h3,h4,h5,h6,h7,h8⟩:=Vr h'
      unfold FnOk
      rw[h8]
      exact⟨hm,fn,c,h1,h2,h3,h4,h5,h6,h7⟩
     ·nomatch h'
   ·exact kZ mul add▸allT hm nd hX d _ _
   ·exact kY mul add▸allT hm nd hX d _ _
theorem jo {P:Program}(hm:P.follows .mixedOrders=true) (nd:List Nat):∀d mul add,AllD P (fun m=>mul*m+add) (tree (many P nd) d mul add)
 |0,_,_=>trivial
 | d +1,mul,add=>by
   refine⟨fun e h=>?_,?_,?_⟩
   ·have h':(bif nd.elem add then mk P (fun n c=>Cg P nd n true c) add else none)=some e:=h
    cases hb:nd.elem add<;>simp only[hb,cond_true,cond_false]at h'
    ·nomatch h'
    ·obtain⟨fn,c,h1,h2,h3,h4,h5,h6,h7,_⟩:=Vr h'
     show U0 P (mul*0+add) _ _ _ _
     rw[Nat.mul_zero,Nat.zero_add]
     exact⟨hm,nd,fn,c,h1,h2,h3,h4,h5,h6,h7⟩
   ·exact kZ mul add▸jo hm nd d _ _
   ·exact kY mul add▸jo hm nd d _ _
noncomputable def tab (P:Program) (nd:List Nat) (X:Hr):KT KFn:=tree (one P nd X) 10 1 0
noncomputable def Ry (P:Program) (nd:List Nat):KT KFn:=tree (many P nd) 10 1 0
theorem Lh {P:Program}(hm:P.follows .mixedOrders=true) (nd:List Nat) {X:Hr}(hX:Fl P X):TabOk P (tab P nd X):=
 allT_ok (by have:=allT hm nd hX 10 1 0;simp only[Nat.one_mul,Nat.add_zero]at this;exact this)
theorem Jd {P:Program}(hm:P.follows .mixedOrders=true) (nd:List Nat):TabDOk P (Ry P nd):=
 allD_ok (by have:=jo hm nd 10 1 0;simp only[Nat.one_mul,Nat.add_zero]at this;exact this)
theorem El {P:Program}{nd mg:List Nat}(hm:P.follows .mixedOrders=true) {X:Hr}(hX:Fl P X) {D f g:Nat}(he:AE.KerD.CG P (tab P nd X) (Ry P nd) nd mg D f g=true) {lo:Nat}{h:H}:AW P g lo h [] (fun v h'=>v= .bool true/\h'=h):=
 AE.KerD.El hm (Lh hm nd hX) (Jd hm nd) he
end AE.KerP

/- Which functions may come to many ends (round r8); their tables out of the program itself. -/
namespace AE.Tryz
open Go AE Go.Proofs
def Jk:List Nat:=[3,4,5,6,7,9,10,15,37,39,41,43,82,98,107,146,147,148,180,181,189,201,212,214,220,221,232,235,265,266,281,297,315,337,345,347,359,360,396,397,398,399,400,463,494,499,573,576]
def Ms:List Nat:=[3,4,5,6,7,9,10,15,37,39,41,43,82,98,107,146,147,148,180,181,189,201,212,214,220,221,265,266,281,297,315,359,360,396,397,398,399,400,463,494,499,573,576]
def L9:List Nat:=[398,337,315,10]
noncomputable def kt:AE.KT AE.KerT.KFn:=AE.KerP.tab Tryz.prog Jk AE.KerP.Vn
noncomputable def Ow:=AE.KerP.Ry Tryz.prog Jk
theorem kc {g:Nat}(he:AE.KerD.CG Tryz.prog kt Ow Jk L9 1000000 1000000 g=true) {lo:Nat}{h:H}:AW Tryz.prog g lo h [] (fun v h'=>v= .bool true/\h'=h):=AE.KerP.El rfl AE.KerP.E9 he
end AE.Tryz
