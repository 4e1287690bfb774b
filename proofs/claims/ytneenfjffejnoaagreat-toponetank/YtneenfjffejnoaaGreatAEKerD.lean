/- An evaluator for the kernel that goes every way a range over a map may go: closed calls by evaluation. -/
import Derived.Test.YtneenfjffejnoaaGreatJoin78
import Derived.Test.YtneenfjffejnoaaGreatAEDX
import Derived.Test.YtneenfjffejnoaaGreatAEthree
set_option linter.unusedVariables false
set_option linter.unusedSimpArgs false
set_option linter.unusedSectionVars false
set_option linter.unusedVariables false
namespace AE.KerD
open Go AE
open AE.KerT (KFn TabOk)

theorem Ms {P:Program}{lo base:Nat}{K K':Ts->H->Prop}(hK:∀ts h,K ts h->K' ts h):∀{xs:List A7} {i:Nat} {ts:Ts} {h:H},JX P lo base i xs K ts h->JX P lo base i xs K' ts h
 |[],_,_,_,h=>hK _ _ h
 | o::rest,i,ts,h,hr=>by
   simp only[JX]at hr⊢
   split
   ·rename_i hw
    rw[if_pos hw]at hr
    cases hi:o.ins with
    | op ao=>
      rw[hi]at hr
      obtain⟨v,h',ha,hr⟩:=hr
      exact⟨v,h',ha,Ms hK hr⟩
    | call f args=>
      rw[hi]at hr
      exact hr.mono (Nat.le_refl _) fun v h' hr=>Ms hK hr
   ·rename_i hw
    rw[if_neg hw]at hr
    exact Ms hK hr
theorem DG {P:Program}{lo:Nat}:∀(A:Ay) {Q Q':Exit->Ts->H->Prop},(∀e ts h,Q e ts h->Q' e ts h)->∀ts h,K4 P lo A Q ts h->K4 P lo A Q' ts h
 |.skip,_,_,hq,ts,h,w=>hq _ _ _ w
 |.ret,_,_,hq,ts,h,w=>hq _ _ _ w
 |.exit _,_,_,hq,ts,h,w=>hq _ _ _ w
 |.seq a b,Q,Q',hq,ts,h,w=>DG a (Q:=EW (K4 P lo b Q) Q) (fun e ts h x=>by cases e<;>first|exact DG b hq _ _ x|exact hq _ _ _ x) ts h w
 | .cond c a b,Q,Q',hq,ts,h,w=>by
   obtain⟨t,e,w⟩:=w
   refine⟨t,e,?_⟩
   split
   ·rename_i ht;rw[if_pos ht]at w;exact DG a hq _ _ w
   ·rename_i ht;rw[if_neg ht]at w;exact DG b hq _ _ w
 |.block id c,Q,Q',hq,ts,h,w=>DG c (Q:=EU id Q) (fun e ts h x=>by
  cases e<;>first|exact hq _ _ _ x|skip
  simp only[EU]at x⊢
  split
  ·rename_i ht;rw[if_pos ht]at x;exact hq _ _ _ x
  ·rename_i ht;rw[if_neg ht]at x;exact hq _ _ _ x) ts h w
 | .loop c,Q,Q',hq,ts,h,w=>by
   obtain⟨k,w⟩:=w
   exact⟨k,ME (fun K K' hK ts h x=>DG c (Q:=EW K Q) (fun e ts h y=>by cases e<;>first|exact hK _ _ y|exact hq _ _ _ y) ts h x) k ts h w⟩
 | .reg ops,Q,Q',hq,ts,h,w=>by
   simp only[K4]at w⊢
   exact Ms (hq .normal) w
 |.BN ops ap,Q,Q',hq,ts,h,w=>Ga (K:=fun ts' h'=>Apart ap ts'/\Q .normal ts' h') (fun ts h x=>⟨x.1,hq _ _ _ x.2⟩) w
 | .range f ps n Ed body x y,Q,Q',hq,ts,h,w=>by
   obtain⟨g,first,CL,e,a⟩:=w
   exact⟨g,first,CL,e,a.mono (Nat.le_refl _) fun v h' ⟨L,hL,hs,w⟩=>⟨L,hL,hs,hq _ _ _ w⟩⟩
 | .next x a b,Q,Q',hq,ts,h,w=>by
   obtain⟨r,m,since,seen,c0,es,clock,e1,hlo,hrm,hg,hgm,hold,hsc,hw0,hw1⟩:=w
   exact⟨r,m,since,seen,c0,es,clock,e1,hlo,hrm,hg,hgm,hold,hsc,fun h=>hq _ _ _ (hw0 h),fun e he hn=>hq _ _ _ (hw1 e he hn)⟩

def TabDOk (P:Program) (T:KT KFn):Prop:=∀g e,T.get g=some e->dr P g e.n e.na e.A e.rs

def AllD (P:Program) (f:Nat->Nat):KT KFn->Prop
 |.nil=>True
 |.node l v r=>(∀e,v=some e->dr P (f 0) e.n e.na e.A e.rs)/\AllD P (fun m=>f (2*m+1)) l/\AllD P (fun m=>f (2*m+2)) r
theorem TF {P:Program}:∀{T:KT KFn} {f:Nat->Nat},AllD P f T->∀g e,T.get g=some e->dr P (f g) e.n e.na e.A e.rs
 |.nil,f,_,g,e,h=>by rw[KT.get_nil]at h;exact nomatch h
 | .node l v r,f,⟨h0,hl,hr⟩,g,e,h=>by
   rw[KT.GQ]at h
   by_cases g0:g=0
   ·subst g0;rw[if_pos rfl]at h;exact h0 e h
   ·rw[if_neg g0]at h
    by_cases g1:g%2=1
    ·rw[if_pos g1]at h
     have:=TF hl _ e h
     rw[show 2* (g / 2)+1=g by omega]at this
     exact this
    ·rw[if_neg g1]at h
     have:=TF hr _ e h
     rw[show 2* (g / 2 - 1)+2=g by omega]at this
     exact this
theorem allD_ok {P:Program}{T:KT KFn}(h:AllD P (fun m=>m) T):TabDOk P T:=fun g e he=>TF h g e he


def kindEq:IntKind->IntKind->Bool
 |.i8,.i8|.i16,.i16|.i32,.i32|.i64,.i64|.u8,.u8|.u16,.u16|.u32,.u32|.u64,.u64=>true
 |_,_=>false
def intEq:Int->Int->Bool
 |.ofNat a,.ofNat b=>Nat.beq a b
 |.negSucc a,.negSucc b=>Nat.beq a b
 |_,_=>false
def listEq (f:Value->Value->Bool):List Value->List Value->Bool
 |[],[]=>true
 |a::as,b::bs=>f a b&&listEq f as bs
 |_,_=>false
def wS (ih:Value->Value->Bool):Value->Value->Bool
 |.int k a,.int k' b=>kindEq k k'&&intEq a b
 |.bool true,.bool true=>true
 |.bool false,.bool false=>true
 |.tuple ⟨x⟩,.tuple ⟨y⟩=>listEq ih x y
 |.agg ⟨x⟩,.agg ⟨y⟩=>listEq ih x y
 |.slice none 0 0,.slice none 0 0=>true
 |.pointer none,.pointer none=>true
 |.map none,.map none=>true
 |.nilIface,.nilIface=>true
 |.nilFunc,.nilFunc=>true
 |_,_=>false
def veq:Nat->Value->Value->Bool
 |0=>fun _ _=>false
 |d+1=>wS (veq d)
theorem kindEq_out {k k':IntKind}(h:kindEq k k'=true):k=k':=by cases k<;>cases k'<;>first|rfl|exact absurd h (by decide)
theorem intEq_out {a b:Int}(h:intEq a b=true):a=b:=by
 cases a<;>cases b<;>simp only[intEq,Bool.false_eq_true]at h
 ·rw[Nat.eq_of_beq_eq_true h]
 ·rw[Nat.eq_of_beq_eq_true h]
theorem Jc {f:Value->Value->Bool}(hf:∀a b,f a b=true->a=b/\flat b=true):∀{x y:List Value},listEq f x y=true->x=y/\DZ y=true
 |[],[],_=>⟨rfl,rfl⟩
 | a::as,b::bs,h=>by
   simp only[listEq,Bool.and_eq_true]at h
   obtain⟨rfl,h1⟩:=hf a b h.1
   obtain⟨rfl,h2⟩:=Jc hf h.2
   exact⟨rfl,by simp[DZ,h1,h2]⟩
 |[],_::_,h=>by simp[listEq]at h
 |_::_,[],h=>by simp[listEq]at h
theorem lB {ih:Value->Value->Bool}(hf:∀a b,ih a b=true->a=b/\flat b=true) {a b:Value}(h:wS ih a b=true):a=b/\flat b=true:=by
 unfold wS at h
 split at h
 ·simp only[Bool.and_eq_true]at h
  rw[kindEq_out h.1,intEq_out h.2]
  exact⟨rfl,rfl⟩
 ·exact⟨rfl,rfl⟩
 ·exact⟨rfl,rfl⟩
 ·obtain⟨rfl,h⟩:=Jc hf h
  exact⟨rfl,by simpa[flat]using h⟩
 ·obtain⟨rfl,h⟩:=Jc hf h
  exact⟨rfl,by simpa[flat]using h⟩
 ·exact⟨rfl,rfl⟩
 ·exact⟨rfl,rfl⟩
 ·exact⟨rfl,rfl⟩
 ·exact⟨rfl,rfl⟩
 ·exact⟨rfl,rfl⟩
 ·cases h
theorem veq_out:∀(d:Nat) {a b:Value},veq d a b=true->a=b/\flat b=true
 |0,_,_,h=>by cases h
 |d+1,a,b,h=>lB (fun _ _=>veq_out d) h

theorem N3.flat {P:Program}{g:FuncId}{h:H}{args:List Value}{v:Value}(a:N3 P g h.next h args fun w _=>w=v) (hv:AE.flat v=true) (lo:Nat) (hlo:lo<=h.next):AF P g lo h args v h:=by
 refine⟨Quiet.refl lo h,a.enters,fun I w k ia=>(a.calls I w k ia).mono ?_⟩
 rintro e w' ⟨v',h',J,rfl,q,W,iv,rfl⟩
 have i1:=Cg (J.below h.next) _ hv
 exact⟨J.below h.next,(W.Acd k (Nat.le_refl _) (Nat.le_refl _) k.clean (fun r row hr hg=>.inr (.inl ⟨hr,hg⟩)) (fun r row hr hg=>.inr ((q.same r hr).trans hg))).mono hlo,i1.2,by rw[i1.1,(Cg J _ hv).1]⟩


def K7:Option Nat->Option Nat->Bool
 |none,none=>true
 |some a,some b=>Nat.beq a b
 |_,_=>false
theorem Pw {a b:Option Nat}(h:K7 a b=true):a=b:=by
 cases a<;>cases b<;>simp only[K7,Bool.false_eq_true]at h
 ·rfl
 ·rw[Nat.eq_of_beq_eq_true h]
def lz (n q:Nat) (ih:Value->Value->Bool):Value->Value->Bool
 |.tuple ⟨x⟩,.tuple ⟨y⟩=>listEq ih x y
 |.agg ⟨x⟩,.agg ⟨y⟩=>listEq ih x y
 |.slice (some ⟨b,o,s⟩) l c,.slice (some ⟨b',o',s'⟩) l' c'=>Nat.beq b q&&Nat.beq b' n&&Nat.beq o o'&&K7 s s'&&Nat.beq l l'&&Nat.beq c c'&&not (Nat.ble far c)
 |a,b=>veq 1 a b
def rq (n q:Nat):Nat->Value->Value->Bool
 |0=>fun _ _=>false
 |d+1=>lz n q (rq n q d)
theorem LR {n q:Nat}{J:AZ}{f:Value->Value->Bool}(hf:∀a b,f a b=true->In J a->In (J.mv n q) b/\ren (J.mv n q) b=ren J a):∀{x y:List Value},listEq f x y=true->C5 J x->C5 (J.mv n q) y/\AX (J.mv n q) y=AX J x
 |[],[],_,_=>⟨trivial,rfl⟩
 | a::as,b::bs,h,i=>by
   simp only[listEq,Bool.and_eq_true]at h
   have h1:=hf a b h.1 i.1
   have h2:=LR hf h.2 i.2
   exact⟨⟨h1.1,h2.1⟩,by simp only[AX];rw[h1.2,h2.2]⟩
 |[],_::_,h,_=>by simp[listEq]at h
 |_::_,[],h,_=>by simp[listEq]at h
theorem XD {n q:Nat}{J:AZ}:∀(d:Nat) (a b:Value),rq n q d a b=true->In J a->In (J.mv n q) b/\ren (J.mv n q) b=ren J a
 |0,_,_,h,_=>by cases h
 | d +1,a,b,h,i=>by
   have ih:=XD (n:=n) (q:=q) (J:=J) d
   have h:lz n q (rq n q d) a b=true:=h
   unfold lz at h
   split at h
   ·simp only[In]at i
    have:=LR ih h i
    simp only[In,ren]
    exact⟨this.1,by rw[this.2]⟩
   ·simp only[In]at i
    have:=LR ih h i
    simp only[In,ren]
    exact⟨this.1,by rw[this.2]⟩
   ·simp only[Bool.and_eq_true,Bool.not_eq_true']at h
    obtain⟨⟨⟨⟨⟨⟨e1,e2⟩,e3⟩,e4⟩,e5⟩,e6⟩,e7⟩:=h
    have hc:=(fun hle=>Bool.noConfusion ((Nat.ble_eq_true_of_le hle).symm.trans e7):¬far<=_)
    rw[Nat.eq_of_beq_eq_true e1]at i⊢
    rw[Nat.eq_of_beq_eq_true e3,Pw e4,Nat.eq_of_beq_eq_true e5]at i⊢
    rw[Nat.eq_of_beq_eq_true e2]
    rw[<-Nat.eq_of_beq_eq_true e6]
    have hc:=Nat.lt_of_not_le hc
    rw[Dp hc]at i⊢
    rw[CQ hc,CQ hc]
    simp only[Nm,E4,Ew,CH,AZ.Ox]at i⊢
    refine⟨⟨i.1,?_⟩,?_⟩
    ·have i2:=i.2
     split at i2
     ·exact i2
     ·simp only[AZ.mv,if_true];exact i2
    ·simp only[AZ.mv,if_true]
   ·obtain⟨rfl,hfl⟩:=veq_out 1 h
    have i1:=Cg (J.mv n q) _ hfl
    exact⟨i1.2,by rw[i1.1,(Cg J _ hfl).1]⟩
def PY (f:Value->Option Nat):List Value->Option Nat
 |[]=>none
 |a::as=>match f a with|some q=>some q|none=>PY f as
def Adf (n:Nat) (ih:Value->Option Nat):Value->Option Nat
 |.slice (some ⟨b,_,_⟩) _ _=>bif Nat.ble n b then some b else none
 |.tuple ⟨x⟩=>PY ih x
 |.agg ⟨x⟩=>PY ih x
 |_=>none
def xx (n:Nat):Nat->Value->Option Nat
 |0=>fun _=>none
 |d+1=>Adf n (xx n d)
def Amq (n q:Nat) (ih:Value->Value):Value->Value
 |.slice (some ⟨b,o,s⟩) l c=>bif Nat.beq b q then .slice (some ⟨n,o,s⟩) l c else .slice (some ⟨b,o,s⟩) l c
 |.tuple ⟨x⟩=>.tuple ⟨x.map ih⟩
 |.agg ⟨x⟩=>.agg ⟨x.map ih⟩
 |v=>v
def mvV (n q:Nat):Nat->Value->Value
 |0=>fun v=>v
 |d+1=>Amq n q (mvV n q d)
def natsEq:List Nat->List Nat->Bool
 |[],[]=>true
 |a::as,b::bs=>Nat.beq a b&&natsEq as bs
 |_,_=>false
theorem natsEq_out:∀{x y:List Nat},natsEq x y=true->x=y
 |[],[],_=>rfl
 | a::as,b::bs,h=>by
   simp only[natsEq,Bool.and_eq_true]at h
   rw[Nat.eq_of_beq_eq_true h.1,natsEq_out h.2]
 |[],_::_,h=>by simp[natsEq]at h
 |_::_,[],h=>by simp[natsEq]at h
def Wc:BQ->Bool
 |.grow c _ _ _ _=>DZ c
 |.cells c _=>DZ c
 |_=>false
def isRow:BQ->Option H9->Bool
 |.grow c e sz lens valid,some (.row (.grow c' e' sz' lens' ZY))=>listEq (veq 6) c' c&&Nat.beq e' e&&Nat.beq sz' sz&&natsEq lens' lens&&Nat.beq ZY valid
 |.cells c e,some (.row (.cells c' e'))=>listEq (veq 6) c' c&&Nat.beq e' e
 |_,_=>false
theorem jo {row:BQ}{o:Option H9}(h:isRow row o=true):o=some (.row row):=by
 unfold isRow at h
 split at h
 ·simp only[Bool.and_eq_true]at h
  obtain⟨⟨⟨⟨e1,e2⟩,e3⟩,e4⟩,e5⟩:=h
  have e1:=Jc (fun _ _=>veq_out 6) e1
  rw[e1.1,Nat.eq_of_beq_eq_true e2,Nat.eq_of_beq_eq_true e3,natsEq_out e4,Nat.eq_of_beq_eq_true e5]
 ·simp only[Bool.and_eq_true]at h
  have e1:=Jc (fun _ _=>veq_out 6) h.1
  rw[e1.1,Nat.eq_of_beq_eq_true h.2]
 ·cases h
theorem Ve:∀{l:List Value},DZ l=true->∀v∈l,AE.flat v=true
 |[],_,_,hv=>nomatch hv
 | a::l,h,v,hv=>by
   simp only[DZ,Bool.and_eq_true]at h
   rcases List.mem_cons.1 hv with rfl|hv
   ·exact h.1
   ·exact Ve h.2 v hv
theorem pO {J:AZ}{n rs:Nat}{w:World}{c:List Value}{e:TypeId}(hc:DZ c=true) (k:Ci J rs w (.cells c e)):Ci (J.mv n rs) n w (.cells c e):=by
 obtain⟨b,e1,e2,e3⟩:=k.2
 have rl:∀I:AZ,∀l:List Value,DZ l=true->C5 I l/\AX I l=l:=fun I l=>by
  induction l with
  |nil=>intro _;simp[C5,AX]
  | cons x l ih=>
    intro h
    simp only[DZ,Bool.and_eq_true]at h
    have a:=Cg I _ h.1
    have b:=ih h.2
    simp only[C5,AX]
    exact⟨⟨a.2,b.1⟩,by rw[a.1,b.2]⟩
 refine⟨(rl _ c hc).1,b,AZ.Ox.trans e1,e2,?_⟩
 rw[(rl _ c hc).2]
 rw[(rl J c hc).2]at e3
 exact e3
theorem N3.Agv {P:Program}{g:FuncId}{h:H}{args:List Value}{v:Value}{nr:BQ}
 (a:N3 P g h.next h args fun w h'=>∃q,h.next<=q/\(∀J:AZ,In J w->In (J.mv h.next q) v/\ren (J.mv h.next q) v=ren J w)/\h'.get q=some nr) (hc:Wc nr=true) (lo:Nat) (hlo:lo<=h.next):
 AF P g lo h args v ((h.bump 1).put h.next nr):=by
 have old:∀r,r≠h.next->((h.bump 1).put h.next nr).get r=h.get r:=fun r hr=>by simp[H.put,H.bump,hr]
 have new:((h.bump 1).put h.next nr).get h.next=some nr:=by simp[H.put]
 have nx:((h.bump 1).put h.next nr).next=h.next+1:=rfl
 have cl:(∀r,h.next<=r->h.get r=none)->∀r,((h.bump 1).put h.next nr).next<=r->((h.bump 1).put h.next nr).get r=none:=fun hcl r hr=>by
  rw[nx]at hr
  rw[old r Al]
  exact hcl r Al
 refine⟨⟨by rw[nx];omega,fun r hr=>old r Al,cl⟩,a.enters,fun I w k ia=>(a.calls I w k ia).mono ?_⟩
 rintro _ w' ⟨v',h',J,⟨q,hq,hval,hrow⟩,hqu,W,iv,rfl⟩
 obtain⟨i1,i2⟩:=hval J iv
 refine⟨J.mv h.next q,Dk.mono ?_ hlo,i1,by rw[i2]⟩
 refine W.mv k (Nat.le_refl _) hq (by rw[nx];omega) (cl k.clean) (fun r row hr hg=>.inr ?_) fun row hr hd=>?_
 ·rw[old r Al]at hg
  exact⟨hg,(hqu.same r hr).trans hg⟩
 ·rw[new]at hr
  cases hr
  obtain⟨s,p,ep⟩:=hd
  rw[AZ.Ox]at ep
  have hk:=W.rel.rows q _ hrow ⟨s,p,ep⟩
  cases nr<;>first|(simp[Wc]at hc;done)|skip
  ·exact pO hc hk
  ·exact fB (fun v hv I=>(Cg I _ (Ve hc v hv)).symm) hk

inductive B5 where
 |code (lo:Nat) (A:Ay) (k:Exit->EZ->KH->Bool) (ts:EZ) (kh:KH)
 |loop (lo:Nat) (A:Ay) (k:Exit->EZ->KH->Bool) (ts:EZ) (kh:KH)
 |ops (lo:Nat) (base i:Nat) (ops:List A7) (k:EZ->KH->Bool) (ts:EZ) (kh:KH)
 |call (lo:Nat) (fv:Value) (args:List Value) (kh:KH) (k:Value->KH->Bool)
 |fn (lo g:Nat) (args:List Value) (kh:KH) (k:Value->KH->Bool)
 |Y0 (lo g:Nat) (args:List Value) (kh:KH) (k:Value->KH->Bool)

section
variable (P:Program) (Tm:AE.KerT.B5->Bool) (ih:B5->Bool) (lo:Nat) (k:Exit->EZ->KH->Bool) (ts:EZ) (kh:KH)
noncomputable def nJ (a b:Ay):Bool:=ih (.code lo a (fun e ts kh=>match e with|.normal=>ih (.code lo b k ts kh)|e=>k e ts kh) ts kh)
noncomputable def Kk (c:BH) (a b:Ay):Bool:=Li ts c fun v=>match v with
 |.bool t=>Bool.rec (motive:=fun _=>Bool) (ih (.code lo b k ts kh)) (ih (.code lo a k ts kh)) t
 |_=>false
noncomputable def SV (id:Nat) (c:Ay):Bool:=ih (.code lo c (fun e ts kh=>match e with|.exit id'=>Bool.rec (motive:=fun _=>Bool) (k (.exit id') ts kh) (k .normal ts kh) (Nat.beq id' id)|e=>k e ts kh) ts kh)
noncomputable def PG (ops:List A7):Bool:=K8 kh ops.length fun Ct=>ih (.ops lo kh.next 0 ops (fun ts kh=>k .normal ts kh) ts Ct)
noncomputable def Kj (ops:List A7) (ap:List (BH × BH)):Bool:=K8 kh ops.length fun Ct=>Tm (.ops lo true kh.next 0 ops (fun ts kh=>Bool.rec (motive:=fun _=>Bool) false (k .normal ts kh) (Mf ap (Fw ts))) ts Ct)
noncomputable def Hv (f:BH) (ps:List Nat) (n:Nat) (Ed body:Code):Bool:=Li ts f fun v=>match v with
 | .func (.func g) ⟨first⟩ ⟨CL⟩=>KT.Fb (.loop .ready .none n ts ps Ed body) 64 kh.rows kh.next fun rows=>K8 ⟨kh.next,rows⟩ 1 fun U0=>
  ih (.fn lo g (first++[.func (.yield kh.next) ⟨[]⟩ ⟨[]⟩]++CL) U0 fun _ Wu=>match Wu.rows.get kh.next with
   |some (.loop .busy _ _ _ _ _ _)=>false
   |some (.loop _ pd _ _ _ _ _)=>KT.Fb (.row .gone) 64 Wu.rows kh.next fun rows=>k (FU pd) ts ⟨Wu.next,rows⟩
   |_=>false)
 |_=>false
noncomputable def nu (r m since clock a b:Nat) (seen:List Nat) (es:List MapEntry):Bool:=
 List.rec (motive:=fun _=>Bool) true (fun e _ ih=>Bool.rec (motive:=fun _=>Bool) false ih (Bool.rec (motive:=fun _=>Bool) (Ih kh r (.row (.iter m since (seen++[e.born]) clock)) fun Ct=>KT.Fb (.tuple #[.bool true,e.key,e.val]) 64 ts a fun ts=>KT.Fb (.bool true) 64 ts b fun ts=>k .normal ts Ct) true (seen.any (Nat.beq e.born)))) es
noncomputable def bA (r m since clock a b:Nat) (seen:List Nat) (es:List MapEntry):Bool:=
 List.rec (motive:=fun _=>Bool) false (fun e _ ih=>Bool.rec (motive:=fun _=>Bool) (Ih kh r (.row (.iter m since (seen++[e.born]) clock)) fun Ct=>KT.Fb (.tuple #[.bool true,e.key,e.val]) 64 ts a fun ts=>KT.Fb (.bool true) 64 ts b fun ts=>k .normal ts Ct) ih (seen.any (Nat.beq e.born))) es
noncomputable def Yz (fst:Bool) (x:BH) (a b:Nat):Bool:=Li ts x fun v=>match v with
 | .pointer (some ⟨r,0,none⟩)=>(match kh.rows.get r with
   | some (.row (.iter m since seen c0))=>(match kh.rows.get m with
     | some (.row (.map es clock))=>Bool.rec (motive:=fun _=>Bool) false
      (Bool.rec (motive:=fun _=>Bool) (Bool.rec (motive:=fun _=>Bool) (nu k ts kh r m since clock a b seen es) (bA k ts kh r m since clock a b seen es) fst)
       (KT.Fb (.tuple #[.bool false]) 64 ts a fun ts=>KT.Fb (.bool false) 64 ts b fun ts=>k .normal ts kh) (es.all fun e=>seen.any (Nat.beq e.born)))
      (Nat.ble lo r&&not (Nat.beq r m)&&Nat.ble since c0&&es.all fun e=>Nat.ble (e.born+1) since)
     |_=>false)
   |_=>false)
 |_=>false
noncomputable def OG (fst:Bool) (A:Ay):Bool:=match A with
 |.skip=>k .normal ts kh
 |.ret=>k .ret ts kh
 |.exit id=>k (.exit id) ts kh
 |.seq a b=>nJ ih lo k ts kh a b
 |.cond c a b=>Kk ih lo k ts kh c a b
 |.block id c=>SV ih lo k ts kh id c
 |.loop c=>ih (.loop lo c k ts kh)
 |.reg ops=>PG ih lo k ts kh ops
 |.BN ops ap=>Kj Tm lo k ts kh ops ap
 |.range f ps n Ed body _ _=>Hv ih lo k ts kh f ps n Ed body
 |.next x a b=>Yz lo k ts kh fst x a b
end
section
variable (P:Program) (ih:B5->Bool) (lo:Nat)
noncomputable def Ws (base i:Nat) (o:A7) (rest:List A7) (k:EZ->KH->Bool) (ts:EZ) (kh:KH):Bool:=match o.ins with
 |.op ao=>kop P lo (base+i) ts kh (fun v Ct=>T9 v o.dst ts fun ts'=>ih (.ops lo base (i+1) rest k ts' Ct)) ao
 |.call f args=>nq ts args fun args=>Li ts f fun f=>ih (.call lo f args kh fun v Ct=>T9 v o.dst ts fun ts'=>ih (.ops lo base (i+1) rest k ts' Ct))
noncomputable def PF (base i:Nat) (ops:List A7) (k:EZ->KH->Bool) (ts:EZ) (kh:KH):Bool:=match ops with
 |[]=>k ts kh
 |o::rest=>Bool.rec (motive:=fun _=>Bool) (T9 undef o.dst ts fun ts'=>ih (.ops lo base (i+1) rest k ts' kh)) (Ws P ih lo base i o rest k ts kh) (CN (Fw ts) o.guard)
end
section
variable (P:Program) (ih:B5->Bool) (lo:Nat)
noncomputable def Wv (r:Nat) (k:Value->KH->Bool) (e:Exit) (kh:KH):Bool:=match roundEnd e with
 |none=>false
 | some p=>match kh.rows.get r with
   |some (.loop _ _ size tmps ps Ed body)=>Ih kh r (.loop (Ov p) p size tmps ps Ed body) fun kh=>k (.bool (M8 p)) kh
   |_=>false
noncomputable def KQ (r:Nat) (B:Ay) (k:Value->KH->Bool) (e:Exit) (ts:EZ) (kh:KH):Bool:=match e with
 | .normal=>(match kh.rows.get r with
   |some (.loop .ready pd size tmps ps Ed body)=>Ih kh r (.loop .busy pd size tmps ps Ed body) fun kh=>ih (.code lo B (fun e _ kh=>Wv r k e kh) ts kh)
   |_=>false)
 |_=>false
noncomputable def KO (nd:List Nat) (lo:Nat) (r:Nat) (args:List Value) (kh:KH) (k:Value->KH->Bool):Bool:=match kh.rows.get r with
 | some (.loop _ _ size tmps ps Ed body)=>Bool.rec (motive:=fun _=>Bool) false (match Du P nd size false Ed with
   |none=>false
   | some A=>match Du P nd size false body with
     |none=>false
     |some B=>SL (fun Js=>ih (.code lo A (KQ ih lo r B k) Js kh)) ps args tmps) (Nat.ble lo r&&Nat.ble (r+1) kh.next&&Nat.beq args.length ps.length&&ps.all (fun p=>Nat.ble (p+1) size))
 |_=>false
noncomputable def Kh (nd:List Nat) (lo:Nat) (fv:Value) (args:List Value) (kh:KH) (k:Value->KH->Bool):Bool:=match fv with
 |.func (.func g) ⟨first⟩ ⟨CL⟩=>spine (first++args++CL) fun args=>ih (.fn lo g args kh k)
 |.func (.yield r) ⟨[]⟩ ⟨[]⟩=>KO P ih nd lo r args kh k
 |_=>false
noncomputable def Wq (k:Value->KH->Bool) (rs:List ResultVar) (e:Exit) (ts:EZ) (kh:KH):Bool:=match e with
 |.normal=>jk kh k (Hg P kh.abs (Fw ts) rs)
 |.ret=>jk kh k (Hg P kh.abs (Fw ts) rs)
 |_=>false
noncomputable def jl (e:KFn) (args:List Value) (kh:KH) (k:Value->KH->Bool):Bool:=Bool.rec (motive:=fun _=>Bool) false (UZ (fun Js=>ih (.code lo e.A (Wq P k e.rs) Js kh)) args 0 .nil)
 (Nat.beq args.length e.na&&Nat.ble lo kh.next)
noncomputable def jm (T T2:KT KFn) (g:Nat) (args:List Value) (kh:KH) (k:Value->KH->Bool):Bool:=match T.get g with
 | some e=>(match e.hook with
   |some F=>Bool.rec (motive:=fun _=>Bool) false (F args kh k) (Nat.ble lo kh.next)
   |none=>jl P ih lo e args kh k)
 | none=>match T2.get g with
   |some e=>jl P ih lo e args kh k
   |none=>false
end
noncomputable def eY (ih:B5->Bool) (g:Nat) (args:List Value) (kh:KH) (k:Value->KH->Bool) (v:Value):Bool:=
 Bool.rec (motive:=fun _=>Bool) false (Bool.rec (motive:=fun _=>Bool) false (k v kh) (ih (.Y0 kh.next g args kh fun w _=>veq 6 w v))) (veq 6 v v)
noncomputable def nA (n:Nat) (v:Value) (row:BQ) (w:Value) (kh:KH):Bool:=match xx n 6 w with
 |some q=>Nat.ble n q&&rq n q 6 w v&&isRow row (kh.rows.get q)
 |none=>false
noncomputable def eX (ih:B5->Bool) (g:Nat) (args:List Value) (kh:KH) (k:Value->KH->Bool) (v:Value) (o:Option H9):Bool:=match o with
 |some (.row row)=>Bool.rec (motive:=fun _=>Bool) false (Bool.rec (motive:=fun _=>Bool) false (K8 kh 1 fun Ct=>KT.Fb (.row row) 64 Ct.rows kh.next fun rows=>k v ⟨Ct.next,rows⟩)
  (ih (.Y0 kh.next g args kh (nA kh.next v row)))) (Wc row)
 |_=>false
noncomputable def bz (one ih:B5->Bool) (g:Nat) (args:List Value) (kh:KH) (k:Value->KH->Bool):Bool:=
 one (.Y0 kh.next g args kh fun v U0=>match xx kh.next 6 v with
  |none=>H7 6 v fun v=>eY ih g args kh k v
  |some q=>H7 6 (mvV kh.next q 6 v) fun v=>eX ih g args kh k v (U0.rows.get q))
noncomputable def Nc (P:Program) (T T2:KT KFn) (nd mg:List Nat) (fst:Bool) (one:B5->Bool) (Tm:AE.KerT.B5->Bool) (ih:B5->Bool) (t:B5):Bool:=match t with
 |.code lo A k ts kh=>OG Tm ih lo k ts kh fst A
 |.loop lo c k ts kh=>ih (.code lo c (fun e ts kh=>match e with|.normal=>ih (.loop lo c k ts kh)|e=>k e ts kh) ts kh)
 |.ops lo base i ops k ts kh=>PF P ih lo base i ops k ts kh
 |.call lo fv args kh k=>Kh P ih nd lo fv args kh k
 |.fn lo g args kh k=>Bool.rec (motive:=fun _=>Bool) (ih (.Y0 lo g args kh k)) (Bool.rec (motive:=fun _=>Bool) false (bz one ih g args kh k) (Nat.ble lo kh.next)) (mg.any (Nat.beq g))
 |.Y0 lo g args kh k=>jm P ih lo T T2 g args kh k

noncomputable def JG (P:Program) (T T2:KT KFn) (nd:List Nat) (D:Nat) (f:Nat):B5->Bool:=Nat.rec (motive:=fun _=>B5->Bool) (fun _=>false) (fun _ ih=>Nc P T T2 nd [] true (fun _=>false) (AE.KerT.DF P T D) ih) f
noncomputable def DF (P:Program) (T T2:KT KFn) (nd mg:List Nat) (D:Nat) (f:Nat):B5->Bool:=Nat.rec (motive:=fun _=>B5->Bool) (fun _=>false) (fun _ ih=>Nc P T T2 nd mg false (JG P T T2 nd D D) (AE.KerT.DF P T D) ih) f


def QK (k:Exit->EZ->KH->Bool):Exit->Ts->H->Prop:=fun e ts h=>∃tk hk,ts=Fw tk/\h=hk.abs/\k e tk hk=true
def QT (k:EZ->KH->Bool):Ts->H->Prop:=fun ts h=>∃tk hk,ts=Fw tk/\h=hk.abs/\k tk hk=true
def B5.Spec (P:Program) (f:Nat):B5->Prop
 |.code lo A k ts kh=>K4 P lo A (QK k) (Fw ts) kh.abs
 |.loop lo A k ts kh=>iter (fun K=>K4 P lo A (EW K (QK k))) f (Fw ts) kh.abs
 |.ops (lo) (base) (i) (xs) (k) (ts) (kh)=>JX P lo base i xs (QT k) (Fw ts) kh.abs
 |.call lo fv args kh k=>Mn P fv lo kh.abs args fun v h'=>∃Ct,k v Ct=true/\h'=Ct.abs
 |.fn lo g args kh k=>N3 P g lo kh.abs args fun v h'=>∃Ct,k v Ct=true/\h'=Ct.abs
 |.Y0 lo g args kh k=>N3 P g lo kh.abs args fun v h'=>∃Ct,k v Ct=true/\h'=Ct.abs
def B5.Ex:B5->Prop
 |.code _ _ k _ _=>∃e ts kh,k e ts kh=true
 |.loop _ _ k _ _=>∃e ts kh,k e ts kh=true
 |.ops _ _ _ _ k _ _=>∃ts kh,k ts kh=true
 |.call _ _ _ _ k=>∃v kh,k v kh=true
 |.fn _ _ _ _ k=>∃v kh,k v kh=true
 |.Y0 _ _ _ _ k=>∃v kh,k v kh=true

theorem V3 {P:Program}{lo base:Nat}{q:Bool}{K:Ts->H->Prop}:∀{xs:List A7} {i:Nat} {ts:Ts} {h:H},Run P lo q base i xs K ts h->∃ts h,K ts h
 |[],_,_,_,h=>⟨_,_,h⟩
 | o::rest,i,ts,h,hr=>by
   simp only[Run]at hr
   split at hr
   ·cases hi:o.ins with
    | op ao=>
      rw[hi]at hr
      obtain⟨v,h',ha,hr⟩:=hr
      exact V3 hr
    | call f args=>
      rw[hi]at hr
      obtain⟨v,h',ha,hr⟩:=hr
      exact V3 hr
   ·exact V3 hr

theorem YC {r m since clock a b:Nat}{seen:List Nat}{k:Exit->EZ->KH->Bool}{ts:EZ}{kh:KH}:∀{es:List MapEntry},bA k ts kh r m since clock a b seen es=true->∃e ts kh,k e ts kh=true
 |[],h=>by cases h
 | x ::es,h=>by
   have h:Bool.rec (motive:=fun _=>Bool) (Ih kh r (.row (.iter m since (seen++[x.born]) clock)) fun Ct=>KT.Fb (.tuple #[.bool true,x.key,x.val]) 64 ts a fun ts=>KT.Fb (.bool true) 64 ts b fun ts=>k .normal ts Ct) (bA k ts kh r m since clock a b seen es) (seen.any (Nat.beq x.born))=true:=h
   cases hs:seen.any (Nat.beq x.born)with
   |true=>rw[hs]at h;exact YC h
   | false=>
     rw[hs]at h
     obtain⟨Ct,h, -⟩:=DX h
     obtain⟨t1,h, -⟩:=KT.Cd 64 h
     obtain⟨t2,h, -⟩:=KT.Cd 64 h
     exact⟨_,_,_,h⟩

theorem Yy {P:Program}{T T2:KT KFn}{nd:List Nat}{D:Nat}(hm:P.follows .mixedOrders=true) (hT:TabOk P T):∀(f:Nat) (t:B5),JG P T T2 nd D f t=true->t.Ex
 |0,t,h=>Bool.noConfusion h
 | f + 1, t, h=>by
   have ih:∀t,JG P T T2 nd D f t=true->t.Ex:=Yy hm hT f
   have dt:∀t,AE.KerT.DF P T D t=true->t.Spec P D:=AE.KerT.Dz hm hT D
   have h:Nc P T T2 nd [] true (fun _=>false) (AE.KerT.DF P T D) (JG P T T2 nd D f) t=true:=h
   cases t with
   | loop lo c k ts kh=>
     obtain⟨e,Iy,U0,hh⟩:=(show∃e ts kh,_ from ih (.code ..) h)
     cases e with
     |normal=>have r:=ih _ hh;exact r
     |_=>exact⟨_,_,_,hh⟩
   | code lo A k ts kh=>
     have h:OG (AE.KerT.DF P T D) (JG P T T2 nd D f) lo k ts kh true A=true:=h
     cases A with
     |skip=>exact⟨_,_,_,h⟩
     |ret=>exact⟨_,_,_,h⟩
     |exit id=>exact⟨_,_,_,h⟩
     | seq a b=>
       obtain⟨e,Iy,U0,hh⟩:=(show∃e ts kh,_ from ih (.code ..) h)
       cases e with
       |normal=>have r:=ih _ hh;exact r
       |_=>exact⟨_,_,_,hh⟩
     | cond c a b=>
       have h:Kk (JG P T T2 nd D f) lo k ts kh c a b=true:=h
       unfold Kk at h
       rw[CU]at h
       split at h
       ·rename_i t hc
        cases t
        ·have r:=ih _ h;exact r
        ·have r:=ih _ h;exact r
       ·cases h
     | block id c=>
       obtain⟨e,Iy,U0,hh⟩:=(show∃e ts kh,_ from ih (.code ..) h)
       cases e with
       | exit id'=>
         simp only at hh
         cases hb:Nat.beq id' id<;>rw[hb]at hh<;>exact⟨_,_,_,hh⟩
       |_=>exact⟨_,_,_,hh⟩
     |loop c=>exact ih (.loop ..) h
     | reg ops=>
       have h:PG (JG P T T2 nd D f) lo k ts kh ops=true:=h
       unfold PG at h
       obtain⟨Ct,h,e⟩:=El h
       obtain⟨Iy,U0,hh⟩:=(show∃ts kh,_ from ih (.ops ..) h)
       exact⟨_,_,_,hh⟩
     | BN ops ap=>
       have h:Kj (AE.KerT.DF P T D) lo k ts kh ops ap=true:=h
       unfold Kj at h
       obtain⟨Ct,h,e⟩:=El h
       have:=dt (.ops ..) h
       simp only[AE.KerT.B5.Spec,e]at this
       obtain⟨Iy,h1,tk,hk,rfl,rfl,hh⟩:=V3 this
       simp only at hh
       cases ha:Mf ap (Fw tk)with
       |false=>rw[ha]at hh;cases hh
       |true=>rw[ha]at hh;exact⟨_,_,_,hh⟩
     | range fv ps n Ed body A B=>
       have h:Hv (JG P T T2 nd D f) lo k ts kh fv ps n Ed body=true:=h
       unfold Hv at h
       rw[CU]at h
       split at h
       ·obtain⟨rows,h,hp⟩:=KT.Cd 64 h
        obtain⟨U0,h,e1⟩:=El h
        obtain⟨v,Wu,h⟩:=(show∃v kh,_ from ih (.fn ..) h)
        split at h
        ·cases h
        ·obtain⟨rows',h,hp'⟩:=KT.Cd 64 h
         exact⟨_,_,_,h⟩
        ·cases h
       ·cases h
     | next x a b=>
       have h:Yz lo k ts kh true x a b=true:=h
       unfold Yz at h
       rw[CU]at h
       split at h
       ·split at h
        ·rename_i m since seen c0 hg
         split at h
         ·rename_i es clock hgm
          generalize (Nat.ble lo _&&not (Nat.beq _ m)&&Nat.ble since c0&&es.all fun e=>Nat.ble (e.born+1) since)=c1 at h
          cases c1 with
          |false=>cases h
          | true=>
            simp only at h
            generalize (es.all fun e=>seen.any (Nat.beq e.born))=c2 at h
            cases c2 with
            |false=>exact YC h
            | true=>
              obtain⟨t1,h,p1⟩:=KT.Cd 64 h
              obtain⟨t2,h,p2⟩:=KT.Cd 64 h
              exact⟨_,_,_,h⟩
         ·cases h
        ·cases h
       ·cases h
   | ops lo base i ops k ts kh=>
     have h:PF P (JG P T T2 nd D f) lo base i ops k ts kh=true:=h
     cases ops with
     |nil=>exact⟨_,_,h⟩
     | cons o rest=>
       unfold PF at h
       simp only at h
       cases hw:CN (Fw ts) o.guard with
       | false=>
         rw[hw]at h
         obtain⟨ts',h,e⟩:=Fe h
         have r:=ih _ h;exact r
       | true=>
         rw[hw]at h
         simp only at h
         unfold Ws at h
         split at h
         ·obtain⟨v,Ct,h,ha⟩:=Rk h
          obtain⟨ts',h,e⟩:=Fe h
          have r:=ih _ h;exact r
         ·rw[OE,CU]at h
          obtain⟨v,Ct,h⟩:=(show∃v kh,_ from ih (.call ..) h)
          obtain⟨ts',h,e⟩:=Fe h
          have r:=ih _ h;exact r
   | call lo fv args kh k=>
     have h:Kh P (JG P T T2 nd D f) nd lo fv args kh k=true:=h
     unfold Kh at h
     split at h
     ·rw[HK]at h
      exact ih (.fn ..) h
     ·rename_i r _ _
      unfold KO at h
      split at h
      ·rename_i st pd size tmps ps Ed body hg
       generalize (Nat.ble lo r&&Nat.ble (r+1) kh.next&&Nat.beq args.length ps.length&&ps.all (fun p=>Nat.ble (p+1) size))=c1 at h
       cases c1 with
       |false=>cases h
       | true =>
         simp only at h
         split at h
         ·cases h
         ·split at h
          ·cases h
          ·obtain⟨Js,h,e0⟩:=Jd h
           obtain⟨e,Iy,U0,hh⟩:=(show∃e ts kh,_ from ih (.code ..) h)
           unfold KQ at hh
           cases e<;>first|(cases hh;done)|skip
           simp only at hh
           split at hh
           ·obtain⟨k1',hh,ep⟩:=DX hh
            obtain⟨e2,lJ,Wu,hh⟩:=(show∃e ts kh,_ from ih (.code ..) hh)
            unfold Wv at hh
            split at hh
            ·cases hh
            ·split at hh
             ·obtain⟨k2',hh,ep2⟩:=DX hh
              exact⟨_,_,hh⟩
             ·cases hh
           ·cases hh
      ·cases h
     ·cases h
   |fn lo g args kh k=>exact ih (.Y0 ..) h
   | Y0 lo g args kh k=>
     have h:jm P (JG P T T2 nd D f) lo T T2 g args kh k=true:=h
     have fin:∀e:KFn,jl P (JG P T T2 nd D f) lo e args kh k=true->∃v kh,k v kh=true:=fun e h=>by
      unfold jl at h
      cases hc:(Nat.beq args.length e.na&&Nat.ble lo kh.next)with
      |false=>rw[hc]at h;cases h
      | true=>
        rw[hc]at h
        simp only at h
        obtain⟨t0,h,e0⟩:=IE h
        obtain⟨e1,Iy,U0,hh⟩:=(show∃e ts kh,_ from ih (.code ..) h)
        unfold Wq at hh
        cases e1<;>first|(cases hh;done)|skip
        all_goals
         obtain⟨v,hv,hh⟩:=Ip hh
         exact⟨_,_,hh⟩
     unfold jm at h
     split at h
     ·rename_i e he
      have F:=hT g e he
      unfold AE.KerT.FnOk at F
      split at h
      ·rename_i X hX
       simp only[hX]at F
       cases hc:Nat.ble lo kh.next with
       |false=>rw[hc]at h;cases h
       | true=>
         rw[hc]at h
         obtain⟨v,Ct,hk,_⟩:=F lo args kh k h (Nat.le_of_ble_eq_true hc)
         exact⟨v,Ct,hk⟩
      ·exact fin _ h
     ·split at h
      ·exact fin _ h
      ·cases h

theorem U1 {r m since clock a b:Nat}{seen:List Nat}{k:Exit->EZ->KH->Bool}{ts:EZ}{kh:KH}:∀{es:List MapEntry},nu k ts kh r m since clock a b seen es=true->∀e∈es,e.born∉seen->
 QK k .normal (JU (JU (Fw ts) a (.tuple #[.bool true,e.key,e.val])) b (.bool true)) (kh.abs.put r (.iter m since (seen++[e.born]) clock))
 |[],h,e,he,_=>nomatch he
 | x :: es,h,e,he,hn=>by
   have h:Bool.rec (motive:=fun _=>Bool) false (nu k ts kh r m since clock a b seen es) (Bool.rec (motive:=fun _=>Bool) (Ih kh r (.row (.iter m since (seen++[x.born]) clock)) fun Ct=>KT.Fb (.tuple #[.bool true,x.key,x.val]) 64 ts a fun ts=>KT.Fb (.bool true) 64 ts b fun ts=>k .normal ts Ct) true (seen.any (Nat.beq x.born)))=true:=h
   generalize hq:Bool.rec (motive:=fun _=>Bool) (Ih kh r (.row (.iter m since (seen++[x.born]) clock)) fun Ct=>KT.Fb (.tuple #[.bool true,x.key,x.val]) 64 ts a fun ts=>KT.Fb (.bool true) 64 ts b fun ts=>k .normal ts Ct) true (seen.any (Nat.beq x.born))=q at h
   cases q with
   |false=>cases h
   | true=>
     rcases List.mem_cons.1 he with rfl|he
     ·cases hs:seen.any (Nat.beq e.born)with
      | true=>
        exfalso
        obtain⟨y,hy,hb⟩:=List.any_eq_true.1 hs
        have:=Nat.eq_of_beq_eq_true hb
        subst this
        exact hn hy
      | false=>
        rw[hs]at hq
        obtain⟨Ct,hq,e1⟩:=DX hq
        obtain⟨t1,hq,p1⟩:=KT.Cd 64 hq
        obtain⟨t2,hq,p2⟩:=KT.Cd 64 hq
        refine⟨t2,Ct,?_,?_,hq⟩
        ·rw[KP p2,KP p1]
        ·rw[e1];rfl
     ·exact U1 h e he hn

theorem Dz {P:Program}{T T2:KT KFn}{nd mg:List Nat}{D:Nat}(hm:P.follows .mixedOrders=true) (hT:TabOk P T) (WH:TabDOk P T2):∀(f:Nat) (t:B5),DF P T T2 nd mg D f t=true->t.Spec P f
 |0,t,h=>Bool.noConfusion h
 | f + 1, t, h =>by
   have ih:∀t,DF P T T2 nd mg D f t=true->t.Spec P f:=Dz hm hT WH f
   have dt:∀t,AE.KerT.DF P T D t=true->t.Spec P D:=AE.KerT.Dz hm hT D
   have h:Nc P T T2 nd mg false (JG P T T2 nd D D) (AE.KerT.DF P T D) (DF P T T2 nd mg D f) t=true:=h
   cases t with
   | loop lo c k ts kh=>
     refine DG c ?_ _ _ (show K4 P _ _ (QK _) _ _ from ih (.code ..) h)
     rintro e ts' h' ⟨tk,hk,rfl,rfl,hh⟩
     cases e with
     |normal=>exact ih _ hh
     |_=>exact⟨tk,hk,rfl,rfl,hh⟩
   | code lo A k ts kh=>
     have h:OG (AE.KerT.DF P T D) (DF P T T2 nd mg D f) lo k ts kh false A=true:=h
     cases A with
     |skip=>exact⟨ts,kh,rfl,rfl,h⟩
     |ret=>exact⟨ts,kh,rfl,rfl,h⟩
     |exit id=>exact⟨ts,kh,rfl,rfl,h⟩
     | seq a b=>
       refine DG a ?_ _ _ (show K4 P _ _ (QK _) _ _ from ih (.code ..) h)
       rintro e ts' h' ⟨tk,hk,rfl,rfl,hh⟩
       cases e with
       |normal=>exact ih _ hh
       |_=>exact⟨tk,hk,rfl,rfl,hh⟩
     | cond c a b=>
       have h:Kk (DF P T T2 nd mg D f) lo k ts kh c a b=true:=h
       unfold Kk at h
       rw[CU]at h
       split at h
       ·rename_i t hc
        refine⟨t,hc,?_⟩
        cases t
        ·rw[if_neg (by simp)];exact ih _ h
        ·rw[if_pos rfl];exact ih _ h
       ·cases h
     | block id c=>
       refine DG c ?_ _ _ (show K4 P _ _ (QK _) _ _ from ih (.code ..) h)
       rintro e ts' h' ⟨tk,hk,rfl,rfl,hh⟩
       cases e with
       | exit id'=>
         simp only[EU]
         simp only[GZ beq_iff]at hh
         by_cases he:id'=id
         ·rw[if_pos he]
          rw[if_pos he]at hh
          exact⟨tk,hk,rfl,rfl,hh⟩
         ·rw[if_neg he]
          rw[if_neg he]at hh
          exact⟨tk,hk,rfl,rfl,hh⟩
       |_=>exact⟨tk,hk,rfl,rfl,hh⟩
     |loop c=>exact⟨f,ih (.loop ..) h⟩
     | reg ops=>
       have h:PG (DF P T T2 nd mg D f) lo k ts kh ops=true:=h
       unfold PG at h
       obtain⟨Ct,h,e⟩:=El h
       simp only[B5.Spec,K4]
       have:=ih (.ops ..) h
       simp only[B5.Spec,e]at this
       exact this
     | BN ops ap=>
       have h:Kj (AE.KerT.DF P T D) lo k ts kh ops ap=true:=h
       unfold Kj at h
       obtain⟨Ct,h,e⟩:=El h
       have:=dt (.ops ..) h
       simp only[AE.KerT.B5.Spec,e]at this
       refine Ga ?_ this
       rintro ts' h' ⟨tk,hk,rfl,rfl,hh⟩
       simp only at hh
       cases ha:Mf ap (Fw tk)with
       |false=>rw[ha]at hh;cases hh
       | true=>
         rw[ha]at hh
         exact⟨NV ha,tk,hk,rfl,rfl,hh⟩
     | range fv ps n Ed body A B=>
       have h:Hv (DF P T T2 nd mg D f) lo k ts kh fv ps n Ed body=true:=h
       unfold Hv at h
       rw[CU]at h
       split at h
       ·rename_i g first CL hv
        obtain⟨rows,h,hp⟩:=KT.Cd 64 h
        obtain⟨U0,h,e1⟩:=El h
        have a:=ih (.fn ..) h
        simp only[B5.Spec]at a
        refine⟨g,first,CL,hv,?_⟩
        have e2:U0.abs=kh.abs.enter (EX n (Fw ts) ps Ed body):=by
         rw[e1,KH.Iw hp]
         rfl
        rw[<-e2]
        refine a.mono (Nat.le_refl _) ?_
        rintro v h' ⟨Wu,h,rfl⟩
        split at h
        ·cases h
        ·rename_i st pd _ _ _ _ _ hne hg
         obtain⟨rows',h,hp'⟩:=KT.Cd 64 h
         refine⟨_,ND hg,?_,ts,_,rfl,?_,h⟩
         ·intro he
          exact hne he
         ·rw[KH.Iw hp']
          rfl
        ·cases h
       ·cases h
     | next x a b=>
       have h:Yz lo k ts kh false x a b=true:=h
       unfold Yz at h
       rw[CU]at h
       split at h
       ·rename_i r hv
        split at h
        ·rename_i m since seen c0 hg
         split at h
         ·rename_i es clock hgm
          cases hc:(Nat.ble lo r&&not (Nat.beq r m)&&Nat.ble since c0&&es.all fun e=>Nat.ble (e.born+1) since)with
          |false=>rw[hc]at h;cases h
          | true=>
            rw[hc]at h
            simp only[Bool.and_eq_true,Bool.not_eq_true']at hc
            obtain⟨⟨⟨c1,c2⟩,c3⟩,c4⟩:=hc
            simp only at h
            have all:∀e∈es,(seen.any (Nat.beq e.born)=true↔e.born∈seen):=fun e _=>by
             rw[List.any_eq_true]
             constructor
             ·rintro⟨y,hy,hb⟩
              rw[Nat.eq_of_beq_eq_true hb];exact hy
             ·exact fun hm=>⟨_,hm,Nat.beq_refl _⟩
            refine⟨r,m,since,seen,c0,es,clock,hv,Nat.le_of_ble_eq_true c1,(fun e=>by subst e;rw[Nat.beq_refl]at c2;exact Bool.noConfusion c2),ND hg,ND hgm,fun e he=>Nat.le_of_ble_eq_true (List.all_eq_true.1 c4 e he),Nat.le_of_ble_eq_true c3,fun hs=>?_,fun e he hn=>?_⟩
            ·have:(es.all fun e=>seen.any (Nat.beq e.born))=true:=List.all_eq_true.2 fun e he=>(all e he).2 (hs e he)
             rw[this]at h
             obtain⟨t1,h,p1⟩:=KT.Cd 64 h
             obtain⟨t2,h,p2⟩:=KT.Cd 64 h
             exact⟨t2,kh,by rw[KP p2,KP p1],rfl,h⟩
            ·have:(es.all fun e=>seen.any (Nat.beq e.born))=false:=by
              cases ha:(es.all fun e=>seen.any (Nat.beq e.born))with
              |false=>rfl
              |true=>exact absurd ((all e he).1 (List.all_eq_true.1 ha e he)) hn
             rw[this]at h
             exact U1 h e he hn
         ·cases h
        ·cases h
       ·cases h
   | ops lo base i ops k ts kh=>
     have h:PF P (DF P T T2 nd mg D f) lo base i ops k ts kh=true:=h
     cases ops with
     |nil=>exact⟨ts,kh,rfl,rfl,h⟩
     | cons o rest=>
       simp only[B5.Spec,JX]
       unfold PF at h
       simp only at h
       cases hw:CN (Fw ts) o.guard with
       | false=>
         rw[hw]at h
         rw[if_neg (by simp)]
         obtain⟨ts',h,e⟩:=Fe h
         rw[<-e]
         exact ih _ h
       | true=>
         rw[hw]at h
         rw[if_pos rfl]
         simp only at h
         unfold Ws at h
         split at h
         ·rename_i ao hi
          obtain⟨v,Ct,h,ha⟩:=Rk h
          obtain⟨ts',h,e⟩:=Fe h
          rw[hi]
          refine⟨v,_,ha,?_⟩
          rw[<-e]
          exact ih _ h
         ·rename_i fv args hi
          rw[OE,CU]at h
          have ha:=ih (.call ..) h
          simp only[B5.Spec]at ha
          rw[hi]
          refine ha.mono (Nat.le_refl _) ?_
          rintro v h' ⟨Ct,h,rfl⟩
          obtain⟨ts',h,e⟩:=Fe h
          rw[<-e]
          exact ih _ h
   | call lo fv args kh k=>
     have h:Kh P (DF P T T2 nd mg D f) nd lo fv args kh k=true:=h
     unfold Kh at h
     split at h
     ·rename_i g first CL
      rw[HK]at h
      have a:=ih (.fn ..) h
      simp only[B5.Spec]at a
      exact a.Ack
     ·rename_i r _ _
      unfold KO at h
      split at h
      ·rename_i st pd size tmps ps Ed body hg
       cases hc:(Nat.ble lo r&&Nat.ble (r+1) kh.next&&Nat.beq args.length ps.length&&ps.all (fun p=>Nat.ble (p+1) size))with
       |false=>rw[hc]at h;cases h
       | true =>
         rw[hc]at h
         simp only at h
         simp only[Bool.and_eq_true]at hc
         obtain⟨⟨⟨c1,c2⟩,c3⟩,c4⟩:=hc
         split at h
         ·cases h
         ·rename_i A hA
          split at h
          ·cases h
          ·rename_i B hB
           obtain⟨Js,h,e0⟩:=Jd h
           have hy:YAD P lo r A B ⟨st,pd,size,Fw tmps,ps,Ed,body⟩ args kh.abs (fun v h'=>∃Ct,k v Ct=true/\h'=Ct.abs):=by
            unfold YAD
            simp only
            rw[<-e0]
            refine DG A ?_ _ _ (show K4 P _ _ (QK _) _ _ from ih (.code ..) h)
            rintro e Iy h1 ⟨t1,k1,rfl,rfl,hh⟩
            unfold KQ at hh
            cases e<;>first|(cases hh;done)|skip
            simp only at hh
            split at hh
            ·rename_i pd1 vz dJ ps1 Ahh body1 hg1
             obtain⟨k1',hh,ep⟩:=DX hh
             refine⟨rfl,_,ND hg1,rfl,?_⟩
             have hi:=ih (.code ..) hh
             simp only[B5.Spec,ep]at hi
             refine DG B ?_ _ _ hi
             rintro e2 lJ h2 ⟨t2,k2,rfl,rfl,hh⟩
             unfold Wv at hh
             simp only at hh
             split at hh
             ·cases hh
             ·rename_i p hre
              split at hh
              ·rename_i hg2
               obtain⟨k2',hh,ep2⟩:=DX hh
               refine⟨p,_,hre,ND hg2,_,hh,?_⟩
               rw[ep2]
               rfl
              ·cases hh
            ·cases hh
           exact YAD.call hm hA hB (ND hg) (Nat.le_of_ble_eq_true c1) (Nat.le_of_ble_eq_true c2) (Nat.eq_of_beq_eq_true c3)
            (List.all_eq_true.2 fun p hp=>decide_eq_true (Nat.le_of_ble_eq_true (List.all_eq_true.1 c4 p hp))) hy
      ·cases h
     ·cases h
   | fn lo g args kh k=>
     have h:Bool.rec (motive:=fun _=>Bool) (DF P T T2 nd mg D f (.Y0 lo g args kh k)) (Bool.rec (motive:=fun _=>Bool) false (bz (JG P T T2 nd D D) (DF P T T2 nd mg D f) g args kh k) (Nat.ble lo kh.next)) (mg.any (Nat.beq g))=true:=h
     cases hg:mg.any (Nat.beq g)with
     |false=>rw[hg]at h;exact ih (.Y0 ..) h
     | true =>
       rw[hg]at h
       simp only at h
       cases hl:Nat.ble lo kh.next with
       |false=>rw[hl]at h;cases h
       | true =>
         rw[hl]at h
         simp only at h
         unfold bz at h
         obtain⟨v,Ct,h⟩:=(show∃v kh,_ from Yy hm hT D (.Y0 ..) h)
         split at h
         ·rw [Hz]at h
          unfold eY at h
          cases h1:veq 6 v v with
          |false=>rw[h1]at h;cases h
          | true=>
            rw[h1]at h
            simp only at h
            cases h2:DF P T T2 nd mg D f (.Y0 kh.next g args kh fun w _=>veq 6 w v)with
            |false=>rw[h2]at h;cases h
            | true=>
              rw[h2]at h
              have a:=ih (.Y0 ..) h2
              simp only[B5.Spec]at a
              exact(N3.flat (AE.N3.mono a (Nat.le_refl _) fun w h' ⟨Ct,hv,_⟩=>(veq_out 6 hv).1) (veq_out 6 h1).2 lo (Nat.le_of_ble_eq_true hl)).afd ⟨kh,h,rfl⟩
         ·rw [Hz]at h
          generalize mvV kh.next _ 6 v=v1 at h
          unfold eX at h
          split at h
          ·rename_i row _
           cases h1:Wc row with
           |false=>rw[h1]at h;cases h
           | true=>
             rw[h1]at h
             simp only at h
             cases h2:DF P T T2 nd mg D f (.Y0 kh.next g args kh (nA kh.next v1 row))with
             |false=>rw[h2]at h;cases h
             | true=>
               rw[h2]at h
               simp only at h
               obtain⟨Ct,h,eb⟩:=El h
               obtain⟨rows,h,hp⟩:=KT.Cd 64 h
               have a:=ih (.Y0 ..) h2
               simp only[B5.Spec]at a
               refine(N3.Agv (h:=kh.abs) (v:=v1) (nr:=row) (AE.N3.mono a (Nat.le_refl _) fun w h' ⟨Wu,hv,he⟩=>?_) h1 lo (Nat.le_of_ble_eq_true hl)).afd ⟨⟨Ct.next,rows⟩,h,?_⟩
               ·unfold nA at hv
                split at hv
                ·rename_i q _
                 simp only[Bool.and_eq_true]at hv
                 obtain⟨⟨c1,c2⟩,c3⟩:=hv
                 refine⟨q,Nat.le_of_ble_eq_true c1,fun J i=>XD 6 w v1 c2 i,?_⟩
                 rw[he]
                 exact ND (jo c3)
                ·cases hv
               ·rw[KH.Iw hp,eb]
                rfl
          ·cases h
   | Y0 lo g args kh k=>
     have h:jm P (DF P T T2 nd mg D f) lo T T2 g args kh k=true:=h
     have fin:∀e:KFn,(∀{R:Value->H->Prop},args.length=e.na->lo<=kh.abs.next->K4 P lo e.A (fun e' ts h'=>(e'= .normal\/e'= .ret)/\∃v,Hg P h' ts e.rs=some v/\R v h') (Js args) kh.abs->N3 P g lo kh.abs args R)->jl P (DF P T T2 nd mg D f) lo e args kh k=true->N3 P g lo kh.abs args fun v h'=>∃Ct,k v Ct=true/\h'=Ct.abs:=fun e F h=>by
      unfold jl at h
      cases hc:(Nat.beq args.length e.na&&Nat.ble lo kh.next)with
      |false=>rw[hc]at h;cases h
      | true=>
        rw[hc]at h
        simp only at h
        simp only[Bool.and_eq_true]at hc
        obtain⟨c1,c2⟩:=hc
        obtain⟨t0,h,e0⟩:=IE h
        have et:Fw t0=Js args:=by
         funext m
         rw[e0]
         simp only[Nat.not_lt_zero,if_false,Nat.sub_zero,Js]
         cases args[m]? <;>rfl
        have hw:=ih (.code ..) h
        simp only[B5.Spec,et]at hw
        refine F (Nat.eq_of_beq_eq_true c1) (Nat.le_of_ble_eq_true c2) (DG e.A ?_ _ _ hw)
        rintro e ts' h' ⟨tk,hk,rfl,rfl,hh⟩
        unfold Wq at hh
        cases e<;>first|(cases hh;done)|skip
        all_goals
         obtain⟨v,hv,hh⟩:=Ip hh
         exact⟨by simp,v,hv,hk,hh,rfl⟩
     unfold jm at h
     split at h
     ·rename_i e he
      have F:=hT g e he
      unfold AE.KerT.FnOk at F
      split at h
      ·rename_i X hX
       simp only[hX]at F
       cases hc:Nat.ble lo kh.next with
       |false=>rw[hc]at h;cases h
       | true=>
         rw[hc]at h
         obtain⟨v,Ct,hk,a⟩:=F lo args kh k h (Nat.le_of_ble_eq_true hc)
         exact a.afd ⟨Ct,hk,rfl⟩
      ·rename_i hX
       simp only[hX]at F
       exact fin e (fun a b c=>F.toD.fQ a b c) h
     ·split at h
      ·rename_i e he
       exact fin e (fun a b c=>(WH g e he).fQ a b c) h
      ·cases h


theorem N3.alone {P:Program}{g:FuncId}{args:List Value}{v:Value}(a:N3 P g 0 H.empty args fun w _=>w=v) (ha:∀I,AX I args=args/\C5 I args) (hv:∀I,ren I v=v/\In I v) (lo:Nat) (h:H):AF P g lo h args v h:=by
 refine⟨Quiet.refl lo h,a.enters,fun I w k ia=>?_⟩
 have k0:Rel ⟨fun _ _=>none,fun _ _=>0,I.base⟩ H.empty w:=
  ⟨(fun r row e _=>nomatch e),(fun r d=>nomatch d.choose_spec.choose_spec),(fun r s b d e=>nomatch e),k.base,k.tabs,(fun r r' s s' b d d' e=>nomatch e),fun _ _=>rfl⟩
 have hc:=a.calls ⟨fun _ _=>none,fun _ _=>0,I.base⟩ w k0 (ha _).2
 rw[(ha _).1]at hc
 rw[(ha I).1]
 refine hc.mono ?_
 rintro e w' ⟨v',h',J,rfl,hq,W,iv,rfl⟩
 have hb:∀b,b<w.heap.size->w'.heap[b]? =w.heap[b]? :=fun b hb=>W.ext.block b hb (fun r s d e=>nomatch e)
 refine⟨I,⟨CK.refl I w,fun _ d=>.inl d,fun _ _ _ _ e=>e,⟨fun r row hr d=>(k.rows r row hr d).le (Le.refl I) (fun _ _ e=>e) (fun b ⟨s,d,e⟩=>hb b (k.size _ _ _ _ e)),k.lt,fun r s b d e=>Nat.lt_of_lt_of_le (k.size r s b d e) W.ext.size,Nat.le_trans k.base W.ext.size,k.tabs.same (fun b h1=>hb b (Nat.lt_of_lt_of_le h1 k.base)),k.inj,k.clean⟩,
  ⟨W.ext.os,W.ext.tape,W.ext.output,W.ext.size,fun b hlt _=>hb b hlt⟩⟩,(hv I).2,by rw[(hv I).1,(hv J).1]⟩

noncomputable def ER (P:Program) (T T2:KT KFn) (nd mg:List Nat) (D f g:Nat):Bool:=DF P T T2 nd mg D f (.fn 0 g [] ⟨0,.nil⟩ fun v _=>isTrue v)
theorem GY {P:Program}{T T2:KT KFn}{nd mg:List Nat}(hm:P.follows .mixedOrders=true) (hT:TabOk P T) (WH:TabDOk P T2) {D f g:Nat}(he:ER P T T2 nd mg D f g=true) {lo:Nat}{h:H}:AW P g lo h [] (fun v h'=>v= .bool true/\h'=h):=by
 have a:=Dz hm hT WH f _ he
 simp only[B5.Spec]at a
 exact⟨_,h,⟨rfl,rfl⟩,N3.alone (AE.N3.mono a (Nat.le_refl _) fun v h' ⟨Ct,hv,_⟩=>NH hv) (fun I=>⟨rfl,trivial⟩) (fun I=>⟨by simp[ren],by simp[In]⟩) lo h⟩
end AE.KerD
