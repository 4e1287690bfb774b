/- Code in which a call may come to many ends. -/
import Derived.Test.YtneenfjffejnoaaGreatJoin78
set_option linter.unusedVariables false
set_option linter.unusedSimpArgs false
set_option linter.unusedSectionVars false
namespace AE
open Go Go.RowKit
set_option linter.unusedVariables false


theorem WD.here {tp:Bool}{P:Program}{n lo:Nat}{Q:Exit->Ts->H->Prop}{ts:Ts}{h:H}{C:Code}{e:Exit}(hC:∀ro (Q:Exit->Act->World->Prop) a w,Q e a w->C.wpIn (WR ro) 0 P Q a w) (q:Q e ts h):WD (TC tp P C) n lo Q ts h:=
 (WT.here (Q:=Q) hC q).wd (B0 tp P C)
theorem WD.scope {tp:Bool}{P:Program}{n lo:Nat}{Q:Exit->Ts->H->Prop}{ts:Ts}{h:H}{c:Code}(a:WD (TC tp P c) n lo (ng Q) ts h):WD (TC tp P (.scope c)) n lo Q ts h:=by
 intro ro I w b k t htp
 refine RF (Go.wpIn_mono (a ro I w b k t htp) ?_)
 rintro e' a' w' ⟨ts',h',J,⟨hg,q⟩,r⟩
 exact⟨hg,ts',h',J,q,r⟩

def K4 (P:Program) (lo:Nat):Ay->(Exit->Ts->H->Prop)->Ts->H->Prop
 |.skip,Q=>Q .normal
 |.ret,Q=>Q .ret
 |.exit id,Q=>Q (.exit id)
 |.seq a b,Q=>K4 P lo a (EW (K4 P lo b Q) Q)
 |.cond c a b,Q=>fun ts h=>∃t,ev ts c= .bool t/\if t=true then K4 P lo a Q ts h else K4 P lo b Q ts h
 |.block id c,Q=>K4 P lo c (EU id Q)
 |.loop c,Q=>fun ts h=>∃k,iter (fun K=>K4 P lo c (EW K Q)) k ts h
 |.reg ops,Q=>fun ts h=>JX P lo h.next 0 ops (Q .normal) ts (h.bump ops.length)
 |.BN ops ap,Q=>fun ts h=>Run P lo true h.next 0 ops (fun ts' h'=>Apart ap ts'/\Q .normal ts' h') ts (h.bump ops.length)
 |.range f ps n Ed body _ _,Q=>fun ts h=>∃g first CL,ev ts f= .func (.func g) ⟨first⟩ ⟨CL⟩/\N3 P g lo (h.enter (EX n ts ps Ed body)) (first++[.func (.yield h.next) ⟨[]⟩ ⟨[]⟩]++CL) fun v h'=>
  ∃L,h'.get h.next=some (.loop L)/\L.state≠ .busy/\Q (FU L.pend) ts (h'.put h.next .gone)
 |.next x a b,Q=>nextQ lo x a b (Q .normal)

theorem uN {P:Program}{n lo id:Nat}{tp:Bool}{ops:Array Oper}{A:Ay}{Q:Exit->Ts->H->Prop}{ts:Ts}{h:H}(hm:P.follows .mixedOrders=true) (hc:Zp P n ops=some A) (hl:lo<=h.next) (hw:K4 P lo A Q ts h):WD (TC tp P (.region id ops true)) n lo (ng Q) ts h:=by
 simp only[Zp,Option.bind_eq_some_iff]at hc
 obtain⟨xs,hxs,c,hfc,hc⟩:=hc
 split at hc
 ·rename_i hcut
  simp only[Option.bind_eq_some_iff]at hc
  obtain⟨xs1,tJ,hc⟩:=hc
  split at hc
  ·rename_i hd
   simp only[Option.some.injEq]at hc
   subst hc
   have C:=Zc hcut
   have hcs:=C.inn
   refine(WD.Abq hm C hxs (by simp;omega) (fun i hi=>?_) tJ hd hl (Q:=fun e ts h=>e= .normal/\Q .normal ts h) ?_).mono (B0 tp P _) ?_
   ·rw[Array.getElem?_extract]
    rw[if_pos Al]
    simp
   ·simp only[K4,EW]at hw
    simpa using hw
   ·rintro e ts' h' ⟨rfl,q⟩
    exact⟨by simp,q⟩
  ·simp at hc
 ·simp at hc


def A7.isX (nd:List Nat) (x:A7):Bool:=match x.ins with
 |.call (.t _) _=>true
 |.call (.c (.func (.func g) _ _)) _=>nd.any (Nat.beq g)
 |_=>false
def uL (P:Program) (n:Nat) (ops:Array Oper) (b c:Nat):Option Ay:=
 (DO P n ((behind ops b).extract 0 c) ((behind ops b).extract 0 c).toList).bind fun xs=>
  if qO ((behind ops b).extract 0 c) xs (ku ((behind ops b).extract 0 c) xs)then some (.BN xs (ku ((behind ops b).extract 0 c) xs))else none
def O8 (P:Program) (n:Nat) (ops:Array Oper) (xs:List A7):Nat->List Nat->Option Ay
 |b,[]=>if b<=ops.size then uL P n ops b ops.size else none
 | b,c::cs=>if barrier ops c&&barrier ops (c+1)&&decide (b<=c)&&decide (c<ops.size)then
  (uL P n ops b c).bind fun A=>(xs[c]?).bind fun x=>if x.Ua then(O8 P n ops xs (c+1) cs).map fun B=>.seq A (.seq (.reg [x]) B)else none
   else none
def Amr (ops:Array Oper):Bool:=(List.range ops.size).all fun i=>(II ops i).all (· <i)
def pV (P:Program) (nd:List Nat) (n:Nat) (ops:Array Oper):Option Ay:=
 (DO P n ops ops.toList).bind fun xs=>
  let cs:=(List.range xs.length).filter fun i=>match xs[i]? with|some x=>x.isX nd|none=>false
  if cs.isEmpty||!Amr ops then none else O8 P n ops xs 0 cs

def Du (P:Program) (nd:List Nat) (n:Nat):Bool->Code->Option Ay
 |_,.skip=>some .skip
 |_,.label _=>some .skip
 |_,.ret=>some .ret
 |_,.exit id=>some (.exit id)
 |tp,.seq a b=>(Du P nd n tp a).bind fun x=>(Du P nd n tp b).map (.seq x)
 |tp,.cond c a b=>(Bw c).bind fun c'=>(Du P nd n tp a).bind fun x=>(Du P nd n tp b).map (.cond c' x)
 |tp,.block id c=>(Du P nd n tp c).map (.block id)
 |tp,.loop c=>(Du P nd n tp c).map .loop
 |tp,.scope c=>Du P nd n tp c
 | tp,.region id ops draw=>match(if draw then pV P nd n ops else none)with
   |some A=>some A
   |none=>BX P n tp (.region id ops draw)
 |tp,.rangeFunc f ps Ed body=>if tp=true/\ps.toList.all (fun p=>decide (p<n))=true then(Bw f).map fun f'=>.range f' ps.toList n Ed body .skip .skip else none
 |_,_=>some wz

section
variable {P:Program}{n lo:Nat}
theorem XM {ops:Array Oper}{b c:Nat}{A:Ay}(h:uL P n ops b c=some A):∃xs ap,DO P n ((behind ops b).extract 0 c) ((behind ops b).extract 0 c).toList=some xs/\qO ((behind ops b).extract 0 c) xs ap=true/\A= .BN xs ap:=by
 simp only[uL,Option.bind_eq_some_iff]at h
 obtain⟨xs,hx,h⟩:=h
 split at h
 ·rename_i hd
  simp only[Option.some.injEq]at h
  exact⟨xs,_,hx,hd,h.symm⟩
 ·simp at h

theorem UI {ops:Array Oper}{xs:List A7}(hlt:∀k e,e∈II ops k->e<k) (hx:DO P n ops ops.toList=some xs) {Q:Exit->Ts->H->Prop}{ro:Option Nat}:∀(cs:List Nat) (b:Nat) (A:Ay),O8 P n ops xs b cs=some A->(∀i j,i<b->b<=j->j<ops.size->ord (masks ops ops.size) i j=true)->
 ∀(ts:Ts) (h:H),lo<=h.next->K4 P lo A Q ts h->∀(I:AZ) (w:World) (a:Act) (arr:Array Bool),Rel I h w->Cu I n ts a.tmps->arr.size=ops.size->(∀j,listed arr j↔j<b)->∀(Q':Exit->Act->World->Prop),
  (∀ts' h' J w' a',Q .normal ts' h'->Quiet lo h h'->Dk I J lo h.next h' w w'->Cu J n ts' a'.tmps->a'.defers=a.defers->Q' .normal a' w')->wpAnyIn (WR ro) 0 P .any ops Q' (ops.size - b) arr a w
 | [], b,A,hc,hb,ts,h,hl,hw,I,w,a,arr,k,t,hsz,hli,Q',hQ=>by
   simp only[O8]at hc
   split at hc
   ·rename_i hbs
    obtain⟨xs1,ap,hx1,hd1,rfl⟩:=XM hc
    have:=dQ (ro:=ro) (K:=fun ts h=>Q .normal ts h) (fuel2:=0) (Q:=Q') hlt hbs (Nat.le_refl _) (fun i j _ h1 h2=>by omega) hx1 hd1 hl hw k t hsz hli (fun Iy h1 J w1 a1 hK hq BZ t1 hd arr' hsz' hl'=>?_)
    ·simpa using this
    ·refine⟨?_,hQ Iy h1 J w1 a1 hK hq BZ t1 hd⟩
     cases hr:Region.ready .any ops arr' with
     |nil=>rfl
     | cons j js=>
       exfalso
       have:=(Ff hsz').1 (show j∈Region.ready .any ops arr' by rw[hr];simp)
       exact this.2.1 ((hl' j).2 this.1)
   ·simp at hc
 | c :: cs,b,A,hc,hb,ts,h,hl,hw,I,w,a,arr,k,t,hsz,hli,Q',hQ=>by
   simp only[O8]at hc
   split at hc
   ·rename_i hcond
    simp only[Bool.and_eq_true,decide_eq_true_eq]at hcond
    obtain⟨⟨⟨hb1,hb2⟩,hbc⟩,hcs⟩:=hcond
    have hb1:=Pd hb1
    have hb2:=Pd hb2
    simp only[Option.bind_eq_some_iff]at hc
    obtain⟨A1,hA1,x,hxc,hc⟩:=hc
    split at hc
    ·rename_i bJ
     simp only[Option.map_eq_some_iff]at hc
     obtain⟨B,hB,rfl⟩:=hc
     obtain⟨xs1,ap,hx1,hd1,rfl⟩:=XM hA1
     obtain⟨f,args,hi⟩:∃f args,x.ins= .call f args:=by
      unfold A7.Ua at bJ
      split at bJ
      ·rename_i f args hi;exact⟨f,args,hi⟩
      ·simp at bJ
     have:=dQ (ro:=ro) (K:=fun ts h=>JX P lo h.next 0 [x] (fun ts h=>K4 P lo B Q ts h) ts (h.bump 1)) (fuel2:=ops.size - c) (Q:=Q') hlt hbc Al hb1 hx1 hd1 hl hw k t hsz hli (fun Iy h1 J w1 a1 hK hq BZ t1 hd arr' hsz' hl'=>?_)
     ·rw[show ops.size - b=c - b+(ops.size - c) by omega]
      exact this
     ·have:=pQ (ro:=ro) (K:=fun ts h=>K4 P lo B Q ts h) (fuel2:=ops.size - (c+1)) (Q:=Q') hlt hcs hb1 hb2 hx hxc hi (Nat.le_trans hl hq.next) hK BZ.rel t1 hsz' hl' (fun lJ h2 J2 w2 a2 hK2 hq2 nU t2 hd2 An6 hsz2 hl2=>?_)
      ·rw[show ops.size - c=ops.size - (c+1)+1 by omega]
       exact this
      ·exact UI hlt hx cs (c+1) B hB hb2 lJ h2 (Nat.le_trans hl (Nat.le_trans hq.next hq2.next)) hK2 J2 w2 a2 An6 nU.rel t2 hsz2 hl2 Q' fun ts' h' J' w' a' q hq' hw' t' hd'=>
        hQ ts' h' J' w' a' q ((hq.trans hq2).trans hq') ((BZ.trans nU hq.next).trans hw' (Nat.le_trans hq.next hq2.next)) t' (hd'.trans (hd2.trans hd))
    ·simp at hc
   ·simp at hc

theorem Abr {tp:Bool}{id:Nat}{nd:List Nat}{ops:Array Oper}{A:Ay}{Q:Exit->Ts->H->Prop}{ts:Ts}{h:H}(hm:P.follows .mixedOrders=true) (hc:pV P nd n ops=some A) (hl:lo<=h.next) (hw:K4 P lo A Q ts h):WD (TC tp P (.region id ops true)) n lo (ng Q) ts h:=by
 simp only[pV,Option.bind_eq_some_iff]at hc
 obtain⟨xs,hx,hc⟩:=hc
 split at hc
 ·simp at hc
 ·rename_i hcond
  simp only[Bool.or_eq_true,Bool.not_eq_true',not_or,Bool.not_eq_false]at hcond
  have hlt:∀k e,e∈II ops k->e<k:=fun k e he=>by
   have hk:k<ops.size:=by
    unfold II at he
    split at he
    ·rename_i o ho;exact(Array.getElem?_eq_some_iff.1 ho).1
    ·simp at he
   have:=List.all_eq_true.1 hcond.2 k (by simpa using hk)
   simpa using List.all_eq_true.1 this e he
  intro ro I w a k t _
  refine wpIn_region_any hm ?_
  have hno:∀j,¬listed (Array.replicate ops.size false) j:=by
   intro j hj
   unfold listed at hj
   rw[Array.getD_eq_getD_getElem?,Array.getElem?_replicate]at hj
   split at hj<;>simp at hj
  have:=UI (ro:=ro) hlt hx _ 0 A hc (fun i j h _ _=>by omega) ts h hl hw I w.drew a (Array.replicate ops.size false) k.drew t (by simp) (fun j=>⟨fun hj=>absurd hj (hno j),fun hj=>by omega⟩)
   (fun e' a' w'=>∃ts' h' J,ng Q e' ts' h'/\Quiet lo h h'/\Dk I J lo h.next h' w w'/\Cu J n ts' a'.tmps/\∃ms,a'.defers=ms++a.defers/\Marks J w w' ms)
   (fun ts' h' J w' a' q hq BZ t' hd=>⟨ts',h',J,⟨by simp,q⟩,hq,⟨⟨BZ.grows.le,BZ.grows.new⟩,BZ.dom,BZ.old,BZ.rel,⟨BZ.ext.os,BZ.ext.tape,BZ.ext.output,BZ.ext.size,BZ.ext.block⟩⟩,t',[],hd,Marks.nil _ _ _⟩)
  simpa using this
end

section
variable {P:Program}{n lo:Nat}
theorem lg (hm:P.follows .mixedOrders=true):∀(C:Code) (tp:Bool) (A:Ay) (Q:Exit->Ts->H->Prop) (ts:Ts) (h:H),BX P n tp C=some A->lo<=h.next->K4 P lo A Q ts h->WD (TC tp P C) n lo (ng Q) ts h:=by
 intro C
 induction C with
 |skip=>intro tp A Q ts h hc hl hw;simp[BX]at hc;subst hc;exact(WT.skip (Q:=ng Q) ⟨by simp,hw⟩).wd (B0 tp P _)
 |label l=>intro tp A Q ts h hc hl hw;simp[BX]at hc;subst hc;exact(WT.label (Q:=ng Q) ⟨by simp,hw⟩).wd (B0 tp P _)
 |ret=>intro tp A Q ts h hc hl hw;simp[BX]at hc;subst hc;exact(WT.ret (Q:=ng Q) ⟨by simp,hw⟩).wd (B0 tp P _)
 |exit id=>intro tp A Q ts h hc hl hw;simp[BX]at hc;subst hc;exact(WT.exit (Q:=ng Q) ⟨by simp,hw⟩).wd (B0 tp P _)
 | scope c ih=>
   intro tp A Q ts h hc hl hw
   refine WD.scope ((ih tp A Q ts h (Ns hc).1 hl hw).mono (B0 tp P c) ?_)
   rintro e ts' h' ⟨hg,q⟩
   exact⟨hg,hg,q⟩
 | seq x y WC ihy=>
   intro tp A Q ts h hc hl hw
   simp only[BX,Option.bind_eq_some_iff,Option.map_eq_some_iff]at hc
   obtain⟨a,ha,b,hb,rfl⟩:=hc
   refine WD.seq (((WC tp a _ ts h ha hl hw).strong (B0 tp P x)).mono (B0 tp P x) ?_)
   rintro e ts' h' ⟨⟨hg,q⟩,hq⟩
   cases e<;>first|exact⟨hg,q⟩|exact ihy tp b Q ts' h' hb (Nat.le_trans hl hq.next) q
 | cond c x y WC ihy=>
   intro tp A Q ts h hc hl hw
   simp only[BX,Option.bind_eq_some_iff,Option.map_eq_some_iff]at hc
   obtain⟨c',hc',a,ha,b,hb,rfl⟩:=hc
   obtain⟨t,ht,hw⟩:=hw
   refine WD.cond hc' ht ?_
   cases t
   ·exact ihy tp b Q ts h hb hl (by simpa using hw)
   ·exact WC tp a Q ts h ha hl (by simpa using hw)
 | block id c ih=>
   intro tp A Q ts h hc hl hw
   simp only[BX,Option.map_eq_some_iff]at hc
   obtain⟨a,ha,rfl⟩:=hc
   refine WD.block ((ih tp a _ ts h ha hl hw).mono (B0 tp P c) ?_)
   rintro e ts' h' ⟨hg,q⟩
   cases e<;>first|exact⟨hg,q⟩|skip
   rename_i id'
   simp only[EU]at q⊢
   split
   ·rename_i hid;rw[if_pos hid]at q;exact⟨by simp,q⟩
   ·rename_i hid;rw[if_neg hid]at q;exact⟨by simp,q⟩
 | loop c ih=>
   intro tp A Q ts h hc hl hw
   simp only[BX,Option.map_eq_some_iff]at hc
   obtain⟨a,ha,rfl⟩:=hc
   obtain⟨k,hw⟩:=hw
   refine WD.loop ?_
   induction k generalizing ts h with
   |zero=>exact hw.elim
   | succ k ihk=>
     refine WD.round (((ih tp a _ ts h ha hl hw).strong (B0 tp P c)).mono (B0 tp P c) ?_)
     rintro e ts' h' ⟨⟨hg,q⟩,hq⟩
     cases e<;>first|exact⟨hg,q⟩|exact ihk ts' h' (Nat.le_trans hl hq.next) q
 | region id ops draw=>
   intro tp A Q ts h hc hl hw
   rcases LB hc with⟨rfl,hc2⟩|hc2
   ·exact uN hm hc2 hl hw
   rcases hc2 with hc2|⟨hdr,hc2⟩
   ·simp only[pS,Option.bind_eq_some_iff]at hc2
    obtain⟨xs,hxs,hc2⟩:=hc2
    cases draw
    ·simp at hc2;subst hc2
     simp only[K4]at hw
     refine(WD.reg hxs hl (Q:=fun e ts h=>e= .normal/\Q .normal ts h) (by simpa using hw)).mono (B0 tp P _) ?_
     rintro e ts' h' ⟨rfl,q⟩
     exact⟨by simp,q⟩
    ·simp only[if_true]at hc2
     split at hc2
     ·rename_i hdd
      simp at hc2;subst hc2
      refine((WT.BN hm hxs hdd hl (Q:=fun e ts h=>e= .normal/\Q .normal ts h) (by simp only[K4]at hw;simpa using hw)).wd (B0 tp P _)).mono (B0 tp P _) ?_
      rintro e ts' h' ⟨rfl,q⟩
      exact⟨by simp,q⟩
     ·simp at hc2
   ·obtain⟨o1,o2,x,x',a,b,ho,h1,d1,g1,h2,d2,g2,ha,hb,hx,rfl⟩:=NR hc2
    subst hdr
    exact WD.next (Q:=ng Q) ho h1 d1 g1 h2 d2 g2 ha hb hx (by
     obtain⟨r,m,since,seen,c0,es,clock,e1,e2,e3,e4,e5,e6,e7,e8,e9⟩:=hw
     exact⟨r,m,since,seen,c0,es,clock,e1,e2,e3,e4,e5,e6,e7,fun k=>⟨by simp,e8 k⟩,fun e he hs=>⟨by simp,e9 e he hs⟩⟩)
 | rangeFunc f ps x y WC ihy=>
   intro tp A Q ts h hc hl hw
   simp only[BX]at hc
   split at hc
   ·rename_i htp
    obtain⟨rfl, -⟩:=htp
    simp only[Option.bind_eq_some_iff,Option.map_eq_some_iff]at hc
    obtain⟨f',hf,a,ha,b,hb,rfl⟩:=hc
    obtain⟨g,first,CL,hv,haf⟩:=hw
    obtain⟨ps⟩:=ps
    refine WD.range hf hv hl (haf.mono (Nat.le_refl _) ?_)
    rintro v h' ⟨L,hL,hs,q⟩
    exact⟨L,hL,hs,by cases L.pend<;>simp[FU],q⟩
   ·simp at hc
 |_=>intro tp A Q ts h hc hl hw;simp[BX]at hc;subst hc;obtain⟨t,ht, -⟩:=hw;simp[ev]at ht
theorem wQ (hm:P.follows .mixedOrders=true) (C:Code) (tp:Bool) (A:Ay) (Q:Exit->Ts->H->Prop) (ts:Ts) (h:H) (hc:BX P n tp C=some A) (hl:lo<=h.next) (hw:K4 P lo A Q ts h):WD (TC tp P C) n lo Q ts h:=
 (lg hm C tp A Q ts h hc hl hw).mono (B0 tp P C) fun _ _ _ q=>q.2
theorem rj {nd:List Nat}(hm:P.follows .mixedOrders=true):∀(C:Code) (tp:Bool) (A:Ay) (Q:Exit->Ts->H->Prop) (ts:Ts) (h:H),Du P nd n tp C=some A->lo<=h.next->K4 P lo A Q ts h->WD (TC tp P C) n lo (ng Q) ts h:=by
 intro C
 induction C with
 |skip=>intro tp A Q ts h hc hl hw;simp[Du]at hc;subst hc;exact(WT.skip (Q:=ng Q) ⟨by simp,hw⟩).wd (B0 tp P _)
 |label l=>intro tp A Q ts h hc hl hw;simp[Du]at hc;subst hc;exact(WT.label (Q:=ng Q) ⟨by simp,hw⟩).wd (B0 tp P _)
 |ret=>intro tp A Q ts h hc hl hw;simp[Du]at hc;subst hc;exact(WT.ret (Q:=ng Q) ⟨by simp,hw⟩).wd (B0 tp P _)
 |exit id=>intro tp A Q ts h hc hl hw;simp[Du]at hc;subst hc;exact(WT.exit (Q:=ng Q) ⟨by simp,hw⟩).wd (B0 tp P _)
 | scope c ih=>
   intro tp A Q ts h hc hl hw
   refine WD.scope ((ih tp A Q ts h (by simpa only[Du]using hc) hl hw).mono (B0 tp P c) ?_)
   rintro e ts' h' ⟨hg,q⟩
   exact⟨hg,hg,q⟩
 | seq x y WC ihy=>
   intro tp A Q ts h hc hl hw
   simp only[Du,Option.bind_eq_some_iff,Option.map_eq_some_iff]at hc
   obtain⟨a,ha,b,hb,rfl⟩:=hc
   refine WD.seq (((WC tp a _ ts h ha hl hw).strong (B0 tp P x)).mono (B0 tp P x) ?_)
   rintro e ts' h' ⟨⟨hg,q⟩,hq⟩
   cases e<;>first|exact⟨hg,q⟩|exact ihy tp b Q ts' h' hb (Nat.le_trans hl hq.next) q
 | cond c x y WC ihy=>
   intro tp A Q ts h hc hl hw
   simp only[Du,Option.bind_eq_some_iff,Option.map_eq_some_iff]at hc
   obtain⟨c',hc',a,ha,b,hb,rfl⟩:=hc
   obtain⟨t,ht,hw⟩:=hw
   refine WD.cond hc' ht ?_
   cases t
   ·exact ihy tp b Q ts h hb hl (by simpa using hw)
   ·exact WC tp a Q ts h ha hl (by simpa using hw)
 | block id c ih=>
   intro tp A Q ts h hc hl hw
   simp only[Du,Option.map_eq_some_iff]at hc
   obtain⟨a,ha,rfl⟩:=hc
   refine WD.block ((ih tp a _ ts h ha hl hw).mono (B0 tp P c) ?_)
   rintro e ts' h' ⟨hg,q⟩
   cases e<;>first|exact⟨hg,q⟩|skip
   rename_i id'
   simp only[EU]at q⊢
   split
   ·rename_i hid;rw[if_pos hid]at q;exact⟨by simp,q⟩
   ·rename_i hid;rw[if_neg hid]at q;exact⟨by simp,q⟩
 | loop c ih=>
   intro tp A Q ts h hc hl hw
   simp only[Du,Option.map_eq_some_iff]at hc
   obtain⟨a,ha,rfl⟩:=hc
   obtain⟨k,hw⟩:=hw
   refine WD.loop ?_
   induction k generalizing ts h with
   |zero=>exact hw.elim
   | succ k ihk=>
     refine WD.round (((ih tp a _ ts h ha hl hw).strong (B0 tp P c)).mono (B0 tp P c) ?_)
     rintro e ts' h' ⟨⟨hg,q⟩,hq⟩
     cases e<;>first|exact⟨hg,q⟩|exact ihk ts' h' (Nat.le_trans hl hq.next) q
 | region id ops draw=>
   intro tp A Q ts h hc hl hw
   simp only[Du]at hc
   split at hc
   ·rename_i A' he
    simp only[Option.some.injEq]at hc
    subst hc
    split at he
    ·rename_i hdr
     subst hdr
     exact Abr hm he hl hw
    ·simp at he
   ·exact lg hm _ tp A Q ts h hc hl hw
 | rangeFunc f ps x y WC ihy=>
   intro tp A Q ts h hc hl hw
   simp only[Du]at hc
   split at hc
   ·rename_i htp
    obtain⟨rfl, -⟩:=htp
    simp only[Option.map_eq_some_iff]at hc
    obtain⟨f',hf,rfl⟩:=hc
    obtain⟨g,first,CL,hv,haf⟩:=hw
    obtain⟨ps⟩:=ps
    refine WD.range hf hv hl (haf.mono (Nat.le_refl _) ?_)
    rintro v h' ⟨L,hL,hs,q⟩
    exact⟨L,hL,hs,by cases L.pend<;>simp[FU],q⟩
   ·simp at hc
 |_=>intro tp A Q ts h hc hl hw;simp[Du]at hc;subst hc;obtain⟨t,ht, -⟩:=hw;simp[ev]at ht
theorem VB {nd:List Nat}(hm:P.follows .mixedOrders=true) (C:Code) (tp:Bool) (A:Ay) (Q:Exit->Ts->H->Prop) (ts:Ts) (h:H) (hc:Du P nd n tp C=some A) (hl:lo<=h.next) (hw:K4 P lo A Q ts h):WD (TC tp P C) n lo Q ts h:=
 (rj hm C tp A Q ts h hc hl hw).mono (B0 tp P C) fun _ _ _ q=>q.2
end

def YAD (P:Program) (lo r:Nat) (A B:Ay) (L:F3) (args:List Value) (h:H) (R:Value->H->Prop):Prop:=
 K4 P lo A (fun e Iy h1=>e= .normal/\∃L1,h1.get r=some (.loop L1)/\L1.state= .ready/\
  K4 P lo B (fun e _ h2=>∃p L2,roundEnd e=some p/\h2.get r=some (.loop L2)/\R (.bool (M8 p)) (h2.put r (.loop (ended L2 p)))) Iy (h1.put r (.loop (busy L1)))) (Jy L.params args L.tmps) h
theorem YAD.call {P:Program}{nd:List Nat}{lo:Nat}(hm:P.follows .mixedOrders=true) {r:Nat}{A B:Ay}{L:F3}{args:List Value}{h:H}{R:Value->H->Prop}(hA:Du P nd L.size false L.Ed=some A) (hB:Du P nd L.size false L.body=some B) (hg:h.get r=some (.loop L))
 (hlo:lo<=r) (hr:r<h.next) (hlen:args.length=L.params.length) (hps:L.params.all (fun p=>decide (p<L.size))=true) (hw:YAD P lo r A B L args h R):Mn P (.func (.yield r) ⟨[]⟩ ⟨[]⟩) lo h args R:=by
 refine Xu hg hlo hr hlen (fun p hp=>by simpa using List.all_eq_true.1 hps p hp) ?_
 refine((VB hm _ false A _ _ _ hA Al hw).strong (B0 false P _)).mono (B0 false P _) ?_
 rintro e Iy h1 ⟨⟨rfl,L1,hg1,hs1,hw1⟩,hq1⟩
 refine⟨rfl,L1,hg1,hs1,VB hm _ false B _ _ _ hB ?_ hw1⟩
 have:=hq1.next
 show lo<=h1.next
 omega

theorem QC {P:Program}{f:FuncId}{fn:Func}{c:Code}{n nargs lo:Nat}{rs:List ResultVar}{h:H}{args:List Value}{R:Value->H->Prop}(hf:P.funcs[f]? =some fn) (hb:fn.body=some c) (hn:fn.ntmps=n) (hna:nargs<=n) (hrs:fn.results=⟨rs⟩) (hname:(fn.name== "runtime.NumGoroutine")=false)
 (ha:args.length=nargs) (hw:WD (TC true P c) n lo (fun e ts h'=>(e= .normal\/e= .ret)/\∃v,Hg P h' ts rs=some v/\R v h') (Js args) h):N3 P f lo h args R:=by
 refine⟨fun as w=>?_,fun I w k ia=>?_⟩
 ·have hne:¬fn.name= "runtime.NumGoroutine" :=by simpa using hname
  simp[callFunc,hf,hne,hb,program,Sem.run]
 ·refine callsIn_wide.1 (callsIn_of_wp_marks (F:=Fence.wide) (n:=0) hf hb trivial ?_)
  have ht:Cu I n (Js args) ((⟨AX I args⟩:Array Value)++Array.replicate (fn.ntmps - (⟨AX I args⟩:Array Value).size) undef):=by
   refine⟨by simp;omega,fun i=>?_⟩
   rw[Array.getD_eq_getD_getElem?,Array.getElem?_append]
   by_cases hi:i<args.length
   ·simp only[List.size_toArray,Cw,hi,if_true,List.getElem?_toArray,Dm,Js,List.getElem?_eq_getElem hi,Option.map_some,Option.getD_some]
    exact⟨trivial,Gm ia (List.getElem?_eq_getElem hi)⟩
   ·simp only[List.size_toArray,Cw,hi,if_false,Js,List.getElem?_eq_none (Nat.le_of_not_lt hi),Option.getD_none]
    refine⟨?_,(Dr I).2⟩
    rw[(Dr I).1,Array.getElem?_replicate]
    split<;>rfl
  have:=hw none I w ⟨_,[]⟩ k ht (fun _=>rfl)
  refine Go.wpIn_mono this ?_
  rintro e' a' w' ⟨ts',h',J,⟨he,v,hv,hR⟩,hq,BZ,t',ms,hd,hms⟩
  simp only[List.append_nil]at hd
  have hleave:LeavesInM Fence.wide 0 P fn a'.tmps (fun e w'=>∃v h' J,R v h'/\Quiet lo h h'/\Dk I J lo h.next h' w w'/\In J v/\e= .returned (ren J v)) ms .returning w':=by
   refine HO (I:=I) (J:=J) (h':=h') (lo:=lo) (fun w2 k2 e2=>?_) ms w' BZ.rel BZ.ext hms
   obtain⟨iv,hrun⟩:=Jz (P:=P) hrs t' k2 hv
   exact⟨_,hrun,v,h',J,hR,hq,⟨BZ.grows,BZ.dom,BZ.old,k2,e2⟩,iv,rfl⟩
  rcases he with rfl|rfl
  ·simp only[bodyPostM,hd];exact hleave
  ·simp only[bodyPostM,hd];exact hleave
theorem ZF.fQ {P:Program}{n:Nat}{f:FuncId}{nargs:Nat}{A:Ay}{rs:List ResultVar}(F:ZF P f n nargs A rs) {lo:Nat}{h:H}{args:List Value}{R:Value->H->Prop}(ha:args.length=nargs) (hlo:lo<=h.next)
 (hw:K4 P lo A (fun e ts h'=>(e= .normal\/e= .ret)/\∃v,Hg P h' ts rs=some v/\R v h') (Js args) h):N3 P f lo h args R:=by
 obtain⟨fn,c,hf,hb,hn,hna,hrs,hcc,hname⟩:=F.ex
 exact QC hf hb hn hna hrs hname ha (wQ F.mixed c true A _ _ _ hcc hlo hw)
theorem Cf.toD {P:Program}{n:Nat}{f:FuncId}{nargs:Nat}{A:Ay}{rs:List ResultVar}(F:Cf P f n nargs A rs):ZF P f n nargs A rs:=by
 obtain⟨fn,c,hf,hb,hn,hna,hrs,hcc,hname⟩:=F.ex
 exact⟨F.mixed,fn,c,hf,hb,hn,hna,hrs,(NS hcc).1,hname⟩

structure dr (P:Program) (f:FuncId) (n nargs:Nat) (A:Ay) (rs:List ResultVar):Prop where
 mixed:P.follows .mixedOrders=true
 ex:∃nd fn c,P.funcs[f]? =some fn/\fn.body=some c/\fn.ntmps=n/\nargs<=n/\fn.results=⟨rs⟩/\Du P nd n true c=some A/\(fn.name== "runtime.NumGoroutine")=false
theorem dr.fQ {P:Program}{n:Nat}{f:FuncId}{nargs:Nat}{A:Ay}{rs:List ResultVar}(F:dr P f n nargs A rs) {lo:Nat}{h:H}{args:List Value}{R:Value->H->Prop}(ha:args.length=nargs) (hlo:lo<=h.next)
 (hw:K4 P lo A (fun e ts h'=>(e= .normal\/e= .ret)/\∃v,Hg P h' ts rs=some v/\R v h') (Js args) h):N3 P f lo h args R:=by
 obtain⟨nd,fn,c,hf,hb,hn,hna,hrs,hcc,hname⟩:=F.ex
 exact QC hf hb hn hna hrs hname ha (VB F.mixed c true A _ _ _ hcc hlo hw)
end AE
