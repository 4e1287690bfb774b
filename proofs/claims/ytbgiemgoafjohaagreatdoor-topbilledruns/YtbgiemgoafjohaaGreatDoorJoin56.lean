/- Walks and plain laws: AEMemo, AEToD. -/
import Derived.Test.YtbgiemgoafjohaaGreatDoorJoin87
set_option linter.unusedVariables false
set_option linter.unusedSimpArgs false
set_option linter.unusedSectionVars false

/- Calls that were evaluated on a part of the heap: what they hand back, they hand back on the whole. -/
set_option linter.unusedVariables false
namespace AE.Memo
open Go AE
open AE.KerT (KFn TabOk HookOk)
open AE.KerD (TabDOk kindEq intEq kindEq_out intEq_out natsEq natsEq_out veq veq_out)

def dJ (n:Nat) (c:List Value):Prop:=∀I:Al,BH I c->BH (I.below n) c
def LV (n:Nat):A9->Prop
 |.cells c _=>dJ n c
 |.grow c _ _ _ _=>dJ n c
 |.map es _=>∀I:Al,(∀e∈es,eN I e)->∀e∈es,eN (I.below n) e
 |_=>False
theorem LV.rel {I:Al}{n r:Nat}{w:World}{row:A9}(hr:r<n) (hl:LV n row) (k:Bw I r w row):Bw (I.below n) r w row:=by
 have hb:=I.below_le n
 cases row with
 | cells c e=>
   obtain⟨i,b,e1,e2,e3⟩:=k
   exact⟨hl I i,b,(Al.Cz hr).trans e1,e2,by rw[e3,(hb.Ah c (hl I i)).1]⟩
 | grow c e sz lens valid=>
   obtain⟨i,h1,h2,hgen,hof,h3⟩:=k
   refine⟨hl I i,h1,h2,fun g p e=>hgen g p (Al.AU e).2,fun g g' b d d' v v' e e'=>hof g g' b d d' v v' (Al.AU e).2 (Al.AU e').2,fun g hg hl'=>?_⟩
   obtain⟨b,d,C,e1,e2,e3,e4,e5,e6⟩:=h3 g hg hl'
   exact⟨b,d,C,(Al.Cz hr).trans e1,e2,e3,e4,e5,by rw[<-(hb.Ah c (hl I i)).1];exact e6⟩
 | map es clock=>
   obtain⟨i,b,e1,e2,e3⟩:=k
   have i':=hl I i
   refine⟨i',b,(Al.Cz hr).trans e1,e2,?_⟩
   rw[e3]
   congr 3
   exact List.map_congr_left fun e he=>by unfold B0;rw[(hb.ren _ (i' e he).1).1,(hb.ren _ (i' e he).2).1]
 |_=>exact hl.elim

theorem part {P:Program}{g:FuncId}{h0 h:H}{args:List Value}{v:Value}(a:Jv P g h0.next h0 args fun w _=>w=v) (hv:flat v=true) (hn:h0.next<=h.next)
 (hr:∀r row,h0.get r=some row->r<h0.next/\h.get r=some row/\LV h0.next row) (ha:dJ h0.next args) (lo:Nat):AF P g lo h args v h:=by
 refine⟨Quiet.refl lo h,a.enters,fun I w k ia=>?_⟩
 have hb:=I.below_le h0.next
 have k0:Rel (I.below h0.next) h0 w:=
  ⟨fun r row e d=>by
   obtain⟨h1,h2,h3⟩:=hr r row e
   obtain⟨s,p,d⟩:=d
   exact h3.rel h1 (k.rows r row h2 ⟨s,p,(Al.AU d).2⟩),fun r ⟨s,p,d⟩=>(Al.AU d).1,fun r s b d e=>k.size r s b d (Al.AU e).2,k.base,k.tabs,fun r r' s s' b d d' e e'=>k.inj r r' s s' b d d' (Al.AU e).2 (Al.AU e').2,fun r hle=>by
   cases e:h0.get r with
   |none=>rfl
   |some row=>have:=(hr r row e).1;omega⟩
 have hc:=a.calls _ w k0 (ha I ia)
 rw[<-(hb.Ah args (ha I ia)).1]at hc
 refine hc.mono ?_
 rintro e w' ⟨v',h',J,rfl,hq,W,iv,rfl⟩
 have hbl:∀b,b<w.heap.size->w'.heap[b]? =w.heap[b]? :=fun b hb=>W.ext.block b hb (fun r s d e _=>(Al.AU e).1)
 have f1:=Bi I _ hv
 refine⟨I,⟨BA.refl I w,fun _ d=>.inl d,fun _ _ _ _ e=>e,⟨fun r row hr d=>(k.rows r row hr d).le (Le.refl I) (fun _ _ e=>e) (fun b ⟨s,d,e⟩=>hbl b (k.size _ _ _ _ e)),k.lt,fun r s b d e=>Nat.lt_of_lt_of_le (k.size r s b d e) W.ext.size,Nat.le_trans k.base W.ext.size,k.tabs.same (fun b h1=>hbl b (Nat.lt_of_lt_of_le h1 k.base)),k.inj,k.clean⟩,
  ⟨W.ext.os,W.ext.tape,W.ext.output,W.ext.size,fun b hlt _=>hbl b hlt⟩⟩,f1.2,by rw[f1.1,(Bi J _ hv).1]⟩


def DL (f:Value->Value->Bool):List Value->List Value->Bool
 |[],[]=>true
 |a::xs,b::ys=>f a b&&DL f xs ys
 |_,_=>false
def X9 (n:Nat) (ih:Value->Value->Bool):Value->Value->Bool
 |.int k a,.int k' b=>kindEq k k'&&intEq a b
 |.bool true,.bool true=>true
 |.bool false,.bool false=>true
 |.tuple ⟨x⟩,.tuple ⟨y⟩=>DL ih x y
 |.agg ⟨x⟩,.agg ⟨y⟩=>DL ih x y
 |.slice none 0 0,.slice none 0 0=>true
 |.slice (some ⟨b,o,s⟩) l c,.slice (some ⟨b',o',s'⟩) l' c'=>Nat.beq b b'&&Nat.beq o o'&&AE.KerD.HV s s'&&Nat.beq l l'&&Nat.beq c c'&&Nat.blt b' n&&Nat.blt c' far
 |.pointer none,.pointer none=>true
 |.pointer (some ⟨b,o,s⟩),.pointer (some ⟨b',o',s'⟩)=>Nat.beq b b'&&Nat.beq o o'&&AE.KerD.HV s s'&&Nat.blt b' n
 |.map none,.map none=>true
 |.map (some r),.map (some r')=>Nat.beq r r'&&Nat.blt r' n
 |.nilIface,.nilIface=>true
 |.nilFunc,.nilFunc=>true
 |_,_=>false
def Mp (n:Nat):Nat->Value->Value->Bool
 |0=>fun _ _=>false
 |d+1=>X9 n (Mp n d)
def Low (n:Nat) (v:Value):Prop:=∀I:Al,In I v->In (I.below n) v
theorem Jr {a b:Nat}(h:Nat.blt a b=true):a<b:=Nat.le_of_ble_eq_true h
theorem Di {n:Nat}{f:Value->Value->Bool}(hf:∀a b,f a b=true->a=b/\Low n b):∀{x y:List Value},DL f x y=true->x=y/\dJ n y
 |[],[],_=>⟨rfl,fun _ _=>trivial⟩
 | a::xs,b::ys,h=>by
   simp only[DL,Bool.and_eq_true]at h
   obtain⟨rfl,h1⟩:=hf a b h.1
   obtain⟨rfl,h2⟩:=Di hf h.2
   exact⟨rfl,fun I i=>⟨h1 I i.1,h2 I i.2⟩⟩
 |[],_::_,h=>by simp[DL]at h
 |_::_,[],h=>by simp[DL]at h
theorem Pp {I:Al}{n:Nat}{a:Addr}(h:a.block<n) (i:Jt I a):Jt (I.below n) a:=by
 obtain⟨p,hp⟩:=i
 exact⟨p,(Al.Cz h).trans hp⟩
theorem Wl {n:Nat}{ih:Value->Value->Bool}(hf:∀a b,ih a b=true->a=b/\Low n b) {a b:Value}(h:X9 n ih a b=true):a=b/\Low n b:=by
 unfold X9 at h
 split at h
 ·simp only[Bool.and_eq_true]at h
  rw[kindEq_out h.1,intEq_out h.2]
  exact⟨rfl,fun _ _=>trivial⟩
 ·exact⟨rfl,fun _ _=>trivial⟩
 ·exact⟨rfl,fun _ _=>trivial⟩
 ·obtain⟨rfl,h⟩:=Di hf h
  exact⟨rfl,fun I i=>h I i⟩
 ·obtain⟨rfl,h⟩:=Di hf h
  exact⟨rfl,fun I i=>h I i⟩
 ·exact⟨rfl,fun _ i=>i⟩
 ·simp only[Bool.and_eq_true]at h
  obtain⟨⟨⟨⟨⟨⟨h1,h2⟩,h3⟩,h4⟩,h5⟩,h6⟩,h7⟩:=h
  obtain rfl:=Nat.eq_of_beq_eq_true h1
  obtain rfl:=Nat.eq_of_beq_eq_true h2
  obtain rfl:=AE.KerD.Lm h3
  obtain rfl:=Nat.eq_of_beq_eq_true h4
  obtain rfl:=Nat.eq_of_beq_eq_true h5
  refine⟨rfl,fun I i=>?_⟩
  rw[B8 (Jr h7)]at i⊢
  exact⟨Pp (Jr h6) i.1,i.2⟩
 ·exact⟨rfl,fun _ _=>trivial⟩
 ·simp only[Bool.and_eq_true]at h
  obtain⟨⟨⟨h1,h2⟩,h3⟩,h4⟩:=h
  obtain rfl:=Nat.eq_of_beq_eq_true h1
  obtain rfl:=Nat.eq_of_beq_eq_true h2
  obtain rfl:=AE.KerD.Lm h3
  exact⟨rfl,fun I i=>Pp (Jr h4) i⟩
 ·exact⟨rfl,fun _ _=>trivial⟩
 ·simp only[Bool.and_eq_true]at h
  obtain rfl:=Nat.eq_of_beq_eq_true h.1
  refine⟨rfl,fun I i=>?_⟩
  obtain⟨b,hb⟩:=i
  exact⟨b,(Al.Cz (Jr h.2)).trans hb⟩
 ·exact⟨rfl,fun _ _=>trivial⟩
 ·exact⟨rfl,fun _ _=>trivial⟩
 ·cases h
theorem EK {n:Nat}:∀(d:Nat) {a b:Value},Mp n d a b=true->a=b/\Low n b
 |0,_,_,h=>by cases h
 |d+1,a,b,h=>Wl (fun _ _=>EK d) h
def LH (n:Nat):List MapEntry->List MapEntry->Bool
 |[],[]=>true
 |a::xs,b::ys=>Mp n 8 a.key b.key&&Mp n 8 a.val b.val&&Nat.beq a.born b.born&&LH n xs ys
 |_,_=>false
theorem N4 {n:Nat}:∀{x y:List MapEntry},LH n x y=true->x=y/\∀e∈y,Low n e.key/\Low n e.val
 |[],[],_=>⟨rfl,fun _ h=>nomatch h⟩
 | ⟨k,v,b⟩::xs,⟨k',v',b'⟩::ys,h=>by
   simp only[LH,Bool.and_eq_true]at h
   obtain⟨⟨⟨h1,h2⟩,h3⟩,h4⟩:=h
   obtain⟨rfl,l1⟩:=EK 8 h1
   obtain⟨rfl,l2⟩:=EK 8 h2
   obtain rfl:=Nat.eq_of_beq_eq_true h3
   obtain⟨rfl,l3⟩:=N4 h4
   refine⟨rfl,fun e he=>?_⟩
   rcases List.mem_cons.1 he with rfl|he
   ·exact⟨l1,l2⟩
   ·exact l3 e he
 |[],_::_,h=>by simp[LH]at h
 |_::_,[],h=>by simp[LH]at h
def QF (n:Nat):A9->Option Fy->Bool
 |.map es c,some (.row (.map es' c'))=>LH n es' es&&Nat.beq c' c
 |.grow c e sz lens valid,some (.row (.grow c' e' sz' lens' Tz))=>DL (Mp n 8) c' c&&Nat.beq e' e&&Nat.beq sz' sz&&natsEq lens' lens&&Nat.beq Tz valid
 |.cells c e,some (.row (.cells c' e'))=>DL (Mp n 8) c' c&&Nat.beq e' e
 |_,_=>false
theorem NM {n:Nat}{row:A9}{o:Option Fy}(h:QF n row o=true):o=some (.row row)/\LV n row:=by
 unfold QF at h
 split at h
 ·simp only[Bool.and_eq_true]at h
  obtain⟨rfl,hl⟩:=N4 h.1
  rw[Nat.eq_of_beq_eq_true h.2]
  exact⟨rfl,fun I i e he=>⟨(hl e he).1 I (i e he).1,(hl e he).2 I (i e he).2⟩⟩
 ·simp only[Bool.and_eq_true]at h
  obtain⟨⟨⟨⟨h1,h2⟩,h3⟩,h4⟩,h5⟩:=h
  obtain⟨rfl,hl⟩:=Di (fun _ _=>EK 8) h1
  rw[Nat.eq_of_beq_eq_true h2,Nat.eq_of_beq_eq_true h3,natsEq_out h4,Nat.eq_of_beq_eq_true h5]
  exact⟨rfl,hl⟩
 ·simp only[Bool.and_eq_true]at h
  obtain⟨rfl,hl⟩:=Di (fun _ _=>EK 8) h.1
  rw[Nat.eq_of_beq_eq_true h.2]
  exact⟨rfl,hl⟩
 ·cases h


structure Kept where
 args:List Value
 next:Nat
 rows:List (Nat × A9)
 v:Value

noncomputable def Qp:List (Nat × A9)->KT Fy->(KT Fy->Bool)->Bool
 |[],t,k=>k t
 |(r,x)::l,t,k=>KT.Dl (.row x) 64 t r fun t=>Qp l t k
theorem HA:∀{l:List (Nat × A9)}{t:KT Fy}{k:KT Fy->Bool},Qp l t k=true->∃t',k t'=true/\∀r row,t'.get r=some row->t.get r=some row\/∃x,(r,x)∈l/\row= .row x
 |[],t,k,h=>⟨t,h,fun _ _ e=>.inl e⟩
 | (r,x)::l,t,k,h=>by
   obtain⟨t1,h1,g1⟩:=KT.Bl 64 h
   obtain⟨t',hk,g⟩:=HA h1
   refine⟨t',hk,fun m row e=>?_⟩
   rcases g m row e with e|⟨y,hy,rfl⟩
   ·rw[g1 m]at e
    split at e
    ·rename_i em
     subst em
     simp only[Option.some.injEq]at e
     exact .inr ⟨x,by simp,e.symm⟩
    ·exact .inl e
   ·exact .inr ⟨y,by simp[hy],rfl⟩
noncomputable def Kept.run (m:Kept) (P:Program) (T T2:KT KFn) (nd mg:List Nat) (D f g:Nat):Bool:=
 veq 8 m.v m.v&&Qp m.rows .nil fun t=>AE.KerD.Cn P T T2 nd mg D f (.fn m.next g m.args ⟨m.next,t⟩ fun v _=>veq 8 v m.v)
noncomputable def rowsFit (n:Nat) (kh:KH):List (Nat × A9)->Bool
 |[]=>true
 |(r,x)::l=>Nat.blt r n&&QF n x (kh.rows.get r)&&rowsFit n kh l
theorem Gt {n:Nat}{kh:KH}:∀{l:List (Nat × A9)},rowsFit n kh l=true->∀r x,(r,x)∈l->r<n/\kh.rows.get r=some (.row x)/\LV n x
 |[],_,_,_,h=>nomatch h
 | (r0,x0)::l,h,r,x,hm=>by
   simp only[rowsFit,Bool.and_eq_true]at h
   rcases List.mem_cons.1 hm with e|hm
   ·cases e
    have:=NM h.1.2
    exact⟨Jr h.1.1,this.1,this.2⟩
   ·exact Gt h.2 r x hm
noncomputable def Kept.fits (m:Kept) (args:List Value) (kh:KH):Bool:=Nat.ble m.next kh.next&&DL (Mp m.next 8) args m.args&&rowsFit m.next kh m.rows
theorem Kept.af {m:Kept}{P:Program}{T T2:KT KFn}{nd mg:List Nat}{D f g:Nat}(hm:P.follows .mixedOrders=true) (hT:TabOk P T) (ZC:TabDOk P T2) (hr:m.run P T T2 nd mg D f g=true) {args:List Value}{kh:KH}(hf:m.fits args kh=true) (lo:Nat):AF P g lo kh.abs args m.v kh.abs:=by
 simp only[Kept.run,Bool.and_eq_true]at hr
 obtain⟨hv,hr⟩:=hr
 have hv:=(veq_out 8 hv).2
 obtain⟨t,hk,hg⟩:=HA hr
 have a:=AE.KerD.Cj hm hT ZC f _ hk
 simp only[AE.KerD.A7.Spec]at a
 simp only[Kept.fits,Bool.and_eq_true]at hf
 obtain⟨⟨h1,h2⟩,h3⟩:=hf
 obtain⟨rfl,hl⟩:=Di (fun _ _=>EK 8) h2
 have hle:m.next<=kh.next:=Nat.le_of_ble_eq_true h1
 refine part (h0:=(⟨m.next,t⟩:KH).abs) (h:=kh.abs) (AE.Jv.mono a (Nat.le_refl _) fun v h' ⟨Bz,hv,_⟩=>(veq_out 8 hv).1) hv hle (fun r row e=>?_) hl lo
 simp only[KH.abs,Option.map_eq_some_iff]at e
 obtain⟨kr,e,rfl⟩:=e
 rcases hg r kr e with e|⟨x,hx,rfl⟩
 ·rw[KT.get_nil]at e;cases e
 ·obtain⟨q1,q2,q3⟩:=Gt h3 r x hx
  exact⟨q1,by simp only[KH.abs,q2];rfl,q3⟩
def Ir (n:Nat):List (Nat × A9)->Bool
 |[]=>true
 |(r,x)::l=>Nat.blt r n&&QF n x (some (.row x))&&Ir n l
theorem Ko {n:Nat}:∀{l:List (Nat × A9)},Ir n l=true->∀r x,(r,x)∈l->r<n/\LV n x
 |[],_,_,_,h=>nomatch h
 | (r0,x0)::l,h,r,x,hm=>by
   simp only[Ir,Bool.and_eq_true]at h
   rcases List.mem_cons.1 hm with e|hm
   ·cases e
    exact⟨Jr h.1.1,(NM h.1.2).2⟩
   ·exact Ko h.2 r x hm
theorem Kept.aw {m:Kept}{P:Program}{T T2:KT KFn}{nd mg:List Nat}{D f g:Nat}(hm:P.follows .mixedOrders=true) (hT:TabOk P T) (ZC:TabDOk P T2) (hr:m.run P T T2 nd mg D f g=true) (hs:Ir m.next m.rows=true) (ha:DL (Mp m.next 8) m.args m.args=true)
 {h:H} (hn:m.next<=h.next) (hg:∀r x,(r,x)∈m.rows->h.get r=some x) (lo:Nat):AW P g lo h m.args (fun v h'=>v=m.v/\h'=h):=by
 simp only[Kept.run,Bool.and_eq_true]at hr
 obtain⟨hv,hr⟩:=hr
 have hv:=(veq_out 8 hv).2
 obtain⟨t,hk,hgt⟩:=HA hr
 have a:=AE.KerD.Cj hm hT ZC f _ hk
 simp only[AE.KerD.A7.Spec]at a
 refine⟨m.v,h,⟨rfl,rfl⟩,part (h0:=(⟨m.next,t⟩:KH).abs) (AE.Jv.mono a (Nat.le_refl _) fun v h' ⟨Bz,hv,_⟩=>(veq_out 8 hv).1) hv hn (fun r row e=>?_) (Di (fun _ _=>EK 8) ha).2 lo⟩
 simp only[KH.abs,Option.map_eq_some_iff]at e
 obtain⟨kr,e,rfl⟩:=e
 rcases hgt r kr e with e|⟨x,hx,rfl⟩
 ·rw[KT.get_nil]at e;cases e
 ·obtain⟨q1,q3⟩:=Ko hs r x hx
  exact⟨q1,hg r x hx,q3⟩
noncomputable def hook:List Kept->List Value->KH->(Value->KH->Bool)->Bool
 |[],_,_,_=>false
 |m::ms,args,kh,k=>Bool.rec (motive:=fun _=>Bool) (hook ms args kh k) (k m.v kh) (m.fits args kh)
theorem KI {P:Program}{T T2:KT KFn}{nd mg:List Nat}{D f g:Nat}(hm:P.follows .mixedOrders=true) (hT:TabOk P T) (ZC:TabDOk P T2):∀{ms:List Kept},(∀m∈ms,m.run P T T2 nd mg D f g=true)->HookOk P g (hook ms)
 |[],_=>fun _ _ _ _ h=>nomatch h
 | m::ms,hr=>fun lo args kh k h hlo=>by
   have h':Bool.rec (motive:=fun _=>Bool) (hook ms args kh k) (k m.v kh) (m.fits args kh)=true:=h
   cases hf:m.fits args kh with
   |false=>rw[hf]at h';exact KI hm hT ZC (fun m hm=>hr m (by simp[hm])) lo args kh k h' hlo
   |true=>rw[hf]at h';exact⟨m.v,kh,h',Kept.af hm hT ZC (hr m (by simp)) hf lo⟩
end AE.Memo

/- Code whose calls come to one end each, as_ code that may come to many. -/
set_option linter.unusedVariables false
namespace AE
open Go
def Fi:Aj->Bool
 |.seq a b=>Fi a&&Fi b
 |.cond _ a b=>Fi a&&Fi b
 |.block _ c=>Fi c
 |.loop c=>Fi c
 |.range _ _ _ _ _ _ _=>false
 |_=>true
theorem Run.toD {P:Program}{lo base:Nat}{K:Ts->H->Prop}:∀{xs:List Ao} {i:Nat} {ts:Ts} {h:H},Run P lo false base i xs K ts h->RunD P lo base i xs K ts h
 |[],_,_,_,h=>h
 | o::rest,i,ts,h,hr=>by
   simp only[Run]at hr
   simp only[RunD]
   split
   ·rename_i hw
    rw[if_pos hw]at hr
    cases hi:o.ins with
    | op ao=>
      rw[hi]at hr
      obtain⟨v,h',ha,hr⟩:=hr
      exact⟨v,h',ha,Run.toD hr⟩
    | call f args=>
      rw[hi]at hr
      obtain⟨v,h',ha,hr⟩:=hr
      refine⟨fun o c ro a I w K Q ho ef Mi k iF Mt hK=>?_⟩
      exact ha.run o c ro a I w K Q ho ef Mi k iF Mt fun J w' hw iv=>hK v h' J w' (Run.toD hr) ha.quiet hw iv
   ·rename_i hw
    rw[if_neg hw]at hr
    exact Run.toD hr
theorem DV.toD {P:Program}{lo:Nat}:∀(A:Aj) {Q:Exit->Ts->H->Prop},Fi A=true->∀ts h,DV P lo A Q ts h->HU P lo A Q ts h
 |.skip,_,_,ts,h,w=>w
 |.ret,_,_,ts,h,w=>w
 |.exit _,_,_,ts,h,w=>w
 | .seq a b,Q,hn,ts,h,w=>by
   simp only[Fi,Bool.and_eq_true]at hn
   refine AE.KerD.Co a (Q:=Da (DV P lo b Q) Q) (fun e ts h x=>?_) ts h (DV.toD a hn.1 ts h w)
   cases e<;>first|exact DV.toD b hn.2 _ _ x|exact x
 | .cond c a b,Q,hn,ts,h,w=>by
   simp only[Fi,Bool.and_eq_true]at hn
   obtain⟨t,e,w⟩:=w
   refine⟨t,e,?_⟩
   split
   ·rename_i ht;rw[if_pos ht]at w;exact DV.toD a hn.1 _ _ w
   ·rename_i ht;rw[if_neg ht]at w;exact DV.toD b hn.2 _ _ w
 |.block id c,Q,hn,ts,h,w=>DV.toD c (Q:=C9 id Q) hn ts h w
 | .loop c,Q,hn,ts,h,w=>by
   obtain⟨k,w⟩:=w
   refine⟨k,Jn (fun K K' hK ts h x=>?_) k ts h w⟩
   refine AE.KerD.Co c (Q:=Da K Q) (fun e ts h y=>?_) ts h (DV.toD c hn ts h x)
   cases e<;>first|exact hK _ _ y|exact y
 |.reg ops,Q,_,ts,h,w=>Run.toD w
 |.Ck ops ap,Q,_,ts,h,w=>w
 |.next x a b,Q,_,ts,h,w=>w
 |.range _ _ _ _ _ _ _,_,hn,_,_,_=>by simp[Fi]at hn
def fq:List Aj->Aj
 |[]=>.skip
 |[a]=>a
 |a::b::l=>.seq a (fq (b::l))
def Yt:List Aj->Aj->Aj
 |[],r=>r
 |a::l,r=>.seq a (Yt l r)
theorem OP {P:Program}{lo:Nat}{Q:Exit->Ts->H->Prop}{r:Aj}:∀{l:List Aj} {ts:Ts} {h:H},HU P lo (fq l) (fun e ts h=>e= .normal/\HU P lo r Q ts h) ts h->HU P lo (Yt l r) Q ts h
 |[],ts,h,w=>w.2
 |[a],ts,h,w=>AE.KerD.Co a (fun e ts h x=>by obtain⟨rfl,x⟩:=x;exact x) ts h w
 |a::b::l,ts,h,w=>AE.KerD.Co a (fun e ts h x=>by
  cases e<;>first|exact OP x|exact absurd x.1 (by simp)) ts h w
end AE
