/- Walks and plain laws: AEMemo, AEToD, T9R154. -/
import Derived.Test.YtneenfjffejnoaaGreatJoin7
set_option linter.unusedVariables false
set_option linter.unusedSimpArgs false
set_option linter.unusedSectionVars false

/- Calls that were evaluated on a part of the heap: what they hand back, they hand back on the whole. -/
set_option linter.unusedVariables false
namespace AE.Memo
open Go AE
open AE.KerT (KFn TabOk HookOk)
open AE.KerD (TabDOk kindEq intEq kindEq_out intEq_out natsEq natsEq_out veq veq_out)

def vi (n:Nat) (c:List Value):Prop:=∀I:AZ,C5 I c->C5 (I.below n) c
def Qg (n:Nat):BQ->Prop
 |.cells c _=>vi n c
 |.grow c _ _ _ _=>vi n c
 |.map es _=>∀I:AZ,(∀e∈es,wI I e)->∀e∈es,wI (I.below n) e
 |_=>False
theorem Qg.rel {I:AZ}{n r:Nat}{w:World}{row:BQ}(hr:r<n) (hl:Qg n row) (k:Ci I r w row):Ci (I.below n) r w row:=by
 have hb:=I.below_le n
 cases row with
 | cells c e=>
   obtain⟨i,b,e1,e2,e3⟩:=k
   exact⟨hl I i,b,(AZ.EJ hr).trans e1,e2,by rw[e3,(hb.AX c (hl I i)).1]⟩
 | grow c e sz lens valid=>
   obtain⟨i,h1,h2,hgen,hof,h3⟩:=k
   refine⟨hl I i,h1,h2,fun g p e=>hgen g p (AZ.BL e).2,fun g g' b d d' v v' e e'=>hof g g' b d d' v v' (AZ.BL e).2 (AZ.BL e').2,fun g hg hl'=>?_⟩
   obtain⟨b,d,C,e1,e2,e3,e4,e5,e6⟩:=h3 g hg hl'
   exact⟨b,d,C,(AZ.EJ hr).trans e1,e2,e3,e4,e5,by rw[<-(hb.AX c (hl I i)).1];exact e6⟩
 | map es clock=>
   obtain⟨i,b,e1,e2,e3⟩:=k
   have i':=hl I i
   refine⟨i',b,(AZ.EJ hr).trans e1,e2,?_⟩
   rw[e3]
   congr 3
   exact List.map_congr_left fun e he=>by unfold Dl;rw[(hb.ren _ (i' e he).1).1,(hb.ren _ (i' e he).2).1]
 |_=>exact hl.elim

theorem part {P:Program}{g:FuncId}{h0 h:H}{args:List Value}{v:Value}(a:N3 P g h0.next h0 args fun w _=>w=v) (hv:flat v=true) (hn:h0.next<=h.next)
 (hr:∀r row,h0.get r=some row->r<h0.next/\h.get r=some row/\Qg h0.next row) (ha:vi h0.next args) (lo:Nat):AF P g lo h args v h:=by
 refine⟨Quiet.refl lo h,a.enters,fun I w k ia=>?_⟩
 have hb:=I.below_le h0.next
 have k0:Rel (I.below h0.next) h0 w:=
  ⟨fun r row e d=>by
   obtain⟨h1,h2,h3⟩:=hr r row e
   obtain⟨s,p,d⟩:=d
   exact h3.rel h1 (k.rows r row h2 ⟨s,p,(AZ.BL d).2⟩),fun r ⟨s,p,d⟩=>(AZ.BL d).1,fun r s b d e=>k.size r s b d (AZ.BL e).2,k.base,k.tabs,fun r r' s s' b d d' e e'=>k.inj r r' s s' b d d' (AZ.BL e).2 (AZ.BL e').2,fun r hle=>by
   cases e:h0.get r with
   |none=>rfl
   |some row=>have:=(hr r row e).1;omega⟩
 have hc:=a.calls _ w k0 (ha I ia)
 rw[<-(hb.AX args (ha I ia)).1]at hc
 refine hc.mono ?_
 rintro e w' ⟨v',h',J,rfl,hq,W,iv,rfl⟩
 have hbl:∀b,b<w.heap.size->w'.heap[b]? =w.heap[b]? :=fun b hb=>W.ext.block b hb (fun r s d e _=>(AZ.BL e).1)
 have f1:=Cg I _ hv
 refine⟨I,⟨CK.refl I w,fun _ d=>.inl d,fun _ _ _ _ e=>e,⟨fun r row hr d=>(k.rows r row hr d).le (Le.refl I) (fun _ _ e=>e) (fun b ⟨s,d,e⟩=>hbl b (k.size _ _ _ _ e)),k.lt,fun r s b d e=>Nat.lt_of_lt_of_le (k.size r s b d e) W.ext.size,Nat.le_trans k.base W.ext.size,k.tabs.same (fun b h1=>hbl b (Nat.lt_of_lt_of_le h1 k.base)),k.inj,k.clean⟩,
  ⟨W.ext.os,W.ext.tape,W.ext.output,W.ext.size,fun b hlt _=>hbl b hlt⟩⟩,f1.2,by rw[f1.1,(Cg J _ hv).1]⟩


def Fs (f:Value->Value->Bool):List Value->List Value->Bool
 |[],[]=>true
 |a::xs,b::ys=>f a b&&Fs f xs ys
 |_,_=>false
def lA (n:Nat) (ih:Value->Value->Bool):Value->Value->Bool
 |.int k a,.int k' b=>kindEq k k'&&intEq a b
 |.bool true,.bool true=>true
 |.bool false,.bool false=>true
 |.tuple ⟨x⟩,.tuple ⟨y⟩=>Fs ih x y
 |.agg ⟨x⟩,.agg ⟨y⟩=>Fs ih x y
 |.slice none 0 0,.slice none 0 0=>true
 |.slice (some ⟨b,o,s⟩) l c,.slice (some ⟨b',o',s'⟩) l' c'=>Nat.beq b b'&&Nat.beq o o'&&AE.KerD.K7 s s'&&Nat.beq l l'&&Nat.beq c c'&&Nat.blt b' n&&Nat.blt c' far
 |.pointer none,.pointer none=>true
 |.pointer (some ⟨b,o,s⟩),.pointer (some ⟨b',o',s'⟩)=>Nat.beq b b'&&Nat.beq o o'&&AE.KerD.K7 s s'&&Nat.blt b' n
 |.map none,.map none=>true
 |.map (some r),.map (some r')=>Nat.beq r r'&&Nat.blt r' n
 |.nilIface,.nilIface=>true
 |.nilFunc,.nilFunc=>true
 |_,_=>false
def QH (n:Nat):Nat->Value->Value->Bool
 |0=>fun _ _=>false
 |d+1=>lA n (QH n d)
def Low (n:Nat) (v:Value):Prop:=∀I:AZ,In I v->In (I.below n) v
theorem MP {a b:Nat}(h:Nat.blt a b=true):a<b:=Nat.le_of_ble_eq_true h
theorem EY {n:Nat}{f:Value->Value->Bool}(hf:∀a b,f a b=true->a=b/\Low n b):∀{x y:List Value},Fs f x y=true->x=y/\vi n y
 |[],[],_=>⟨rfl,fun _ _=>trivial⟩
 | a::xs,b::ys,h=>by
   simp only[Fs,Bool.and_eq_true]at h
   obtain⟨rfl,h1⟩:=hf a b h.1
   obtain⟨rfl,h2⟩:=EY hf h.2
   exact⟨rfl,fun I i=>⟨h1 I i.1,h2 I i.2⟩⟩
 |[],_::_,h=>by simp[Fs]at h
 |_::_,[],h=>by simp[Fs]at h
theorem U6 {I:AZ}{n:Nat}{a:Addr}(h:a.block<n) (i:Nm I a):Nm (I.below n) a:=by
 obtain⟨p,hp⟩:=i
 exact⟨p,(AZ.EJ h).trans hp⟩
theorem gR {n:Nat}{ih:Value->Value->Bool}(hf:∀a b,ih a b=true->a=b/\Low n b) {a b:Value}(h:lA n ih a b=true):a=b/\Low n b:=by
 unfold lA at h
 split at h
 ·simp only[Bool.and_eq_true]at h
  rw[kindEq_out h.1,intEq_out h.2]
  exact⟨rfl,fun _ _=>trivial⟩
 ·exact⟨rfl,fun _ _=>trivial⟩
 ·exact⟨rfl,fun _ _=>trivial⟩
 ·obtain⟨rfl,h⟩:=EY hf h
  exact⟨rfl,fun I i=>h I i⟩
 ·obtain⟨rfl,h⟩:=EY hf h
  exact⟨rfl,fun I i=>h I i⟩
 ·exact⟨rfl,fun _ i=>i⟩
 ·simp only[Bool.and_eq_true]at h
  obtain⟨⟨⟨⟨⟨⟨h1,h2⟩,h3⟩,h4⟩,h5⟩,h6⟩,h7⟩:=h
  obtain rfl:=Nat.eq_of_beq_eq_true h1
  obtain rfl:=Nat.eq_of_beq_eq_true h2
  obtain rfl:=AE.KerD.Pw h3
  obtain rfl:=Nat.eq_of_beq_eq_true h4
  obtain rfl:=Nat.eq_of_beq_eq_true h5
  refine⟨rfl,fun I i=>?_⟩
  rw[Dp (MP h7)]at i⊢
  exact⟨U6 (MP h6) i.1,i.2⟩
 ·exact⟨rfl,fun _ _=>trivial⟩
 ·simp only[Bool.and_eq_true]at h
  obtain⟨⟨⟨h1,h2⟩,h3⟩,h4⟩:=h
  obtain rfl:=Nat.eq_of_beq_eq_true h1
  obtain rfl:=Nat.eq_of_beq_eq_true h2
  obtain rfl:=AE.KerD.Pw h3
  exact⟨rfl,fun I i=>U6 (MP h4) i⟩
 ·exact⟨rfl,fun _ _=>trivial⟩
 ·simp only[Bool.and_eq_true]at h
  obtain rfl:=Nat.eq_of_beq_eq_true h.1
  refine⟨rfl,fun I i=>?_⟩
  obtain⟨b,hb⟩:=i
  exact⟨b,(AZ.EJ (MP h.2)).trans hb⟩
 ·exact⟨rfl,fun _ _=>trivial⟩
 ·exact⟨rfl,fun _ _=>trivial⟩
 ·cases h
theorem Gz {n:Nat}:∀(d:Nat) {a b:Value},QH n d a b=true->a=b/\Low n b
 |0,_,_,h=>by cases h
 |d+1,a,b,h=>gR (fun _ _=>Gz d) h
def P3 (n:Nat):List MapEntry->List MapEntry->Bool
 |[],[]=>true
 |a::xs,b::ys=>QH n 8 a.key b.key&&QH n 8 a.val b.val&&Nat.beq a.born b.born&&P3 n xs ys
 |_,_=>false
theorem Tl {n:Nat}:∀{x y:List MapEntry},P3 n x y=true->x=y/\∀e∈y,Low n e.key/\Low n e.val
 |[],[],_=>⟨rfl,fun _ h=>nomatch h⟩
 | ⟨k,v,b⟩::xs,⟨k',v',b'⟩::ys,h=>by
   simp only[P3,Bool.and_eq_true]at h
   obtain⟨⟨⟨h1,h2⟩,h3⟩,h4⟩:=h
   obtain⟨rfl,l1⟩:=Gz 8 h1
   obtain⟨rfl,l2⟩:=Gz 8 h2
   obtain rfl:=Nat.eq_of_beq_eq_true h3
   obtain⟨rfl,l3⟩:=Tl h4
   refine⟨rfl,fun e he=>?_⟩
   rcases List.mem_cons.1 he with rfl|he
   ·exact⟨l1,l2⟩
   ·exact l3 e he
 |[],_::_,h=>by simp[P3]at h
 |_::_,[],h=>by simp[P3]at h
def Wx (n:Nat):BQ->Option H9->Bool
 |.map es c,some (.row (.map es' c'))=>P3 n es' es&&Nat.beq c' c
 |.grow c e sz lens valid,some (.row (.grow c' e' sz' lens' ZY))=>Fs (QH n 8) c' c&&Nat.beq e' e&&Nat.beq sz' sz&&natsEq lens' lens&&Nat.beq ZY valid
 |.cells c e,some (.row (.cells c' e'))=>Fs (QH n 8) c' c&&Nat.beq e' e
 |_,_=>false
theorem SX {n:Nat}{row:BQ}{o:Option H9}(h:Wx n row o=true):o=some (.row row)/\Qg n row:=by
 unfold Wx at h
 split at h
 ·simp only[Bool.and_eq_true]at h
  obtain⟨rfl,hl⟩:=Tl h.1
  rw[Nat.eq_of_beq_eq_true h.2]
  exact⟨rfl,fun I i e he=>⟨(hl e he).1 I (i e he).1,(hl e he).2 I (i e he).2⟩⟩
 ·simp only[Bool.and_eq_true]at h
  obtain⟨⟨⟨⟨h1,h2⟩,h3⟩,h4⟩,h5⟩:=h
  obtain⟨rfl,hl⟩:=EY (fun _ _=>Gz 8) h1
  rw[Nat.eq_of_beq_eq_true h2,Nat.eq_of_beq_eq_true h3,natsEq_out h4,Nat.eq_of_beq_eq_true h5]
  exact⟨rfl,hl⟩
 ·simp only[Bool.and_eq_true]at h
  obtain⟨rfl,hl⟩:=EY (fun _ _=>Gz 8) h.1
  rw[Nat.eq_of_beq_eq_true h.2]
  exact⟨rfl,hl⟩
 ·cases h


structure Kept where
 args:List Value
 next:Nat
 rows:List (Nat × BQ)
 v:Value

noncomputable def Wb:List (Nat × BQ)->KT H9->(KT H9->Bool)->Bool
 |[],t,k=>k t
 |(r,x)::l,t,k=>KT.Fb (.row x) 64 t r fun t=>Wb l t k
theorem KJ:∀{l:List (Nat × BQ)}{t:KT H9}{k:KT H9->Bool},Wb l t k=true->∃t',k t'=true/\∀r row,t'.get r=some row->t.get r=some row\/∃x,(r,x)∈l/\row= .row x
 |[],t,k,h=>⟨t,h,fun _ _ e=>.inl e⟩
 | (r,x)::l,t,k,h=>by
   obtain⟨t1,h1,g1⟩:=KT.Cd 64 h
   obtain⟨t',hk,g⟩:=KJ h1
   refine⟨t',hk,fun m row e=>?_⟩
   rcases g m row e with e|⟨y,hy,rfl⟩
   ·rw[g1 m]at e
    split at e
    ·rename_i em
     subst em
     simp only[Option.some.injEq]at e
     exact .inr ⟨x,by simp,e.symm⟩
    ·exact .inl e
   ·exact .inr ⟨y,by simp[hy],rfl⟩
noncomputable def Kept.run (m:Kept) (P:Program) (T T2:KT KFn) (nd mg:List Nat) (D f g:Nat):Bool:=
 veq 8 m.v m.v&&Wb m.rows .nil fun t=>AE.KerD.DF P T T2 nd mg D f (.fn m.next g m.args ⟨m.next,t⟩ fun v _=>veq 8 v m.v)
noncomputable def rowsFit (n:Nat) (kh:KH):List (Nat × BQ)->Bool
 |[]=>true
 |(r,x)::l=>Nat.blt r n&&Wx n x (kh.rows.get r)&&rowsFit n kh l
theorem JB {n:Nat}{kh:KH}:∀{l:List (Nat × BQ)},rowsFit n kh l=true->∀r x,(r,x)∈l->r<n/\kh.rows.get r=some (.row x)/\Qg n x
 |[],_,_,_,h=>nomatch h
 | (r0,x0)::l,h,r,x,hm=>by
   simp only[rowsFit,Bool.and_eq_true]at h
   rcases List.mem_cons.1 hm with e|hm
   ·cases e
    have:=SX h.1.2
    exact⟨MP h.1.1,this.1,this.2⟩
   ·exact JB h.2 r x hm
noncomputable def Kept.fits (m:Kept) (args:List Value) (kh:KH):Bool:=Nat.ble m.next kh.next&&Fs (QH m.next 8) args m.args&&rowsFit m.next kh m.rows
theorem Kept.af {m:Kept}{P:Program}{T T2:KT KFn}{nd mg:List Nat}{D f g:Nat}(hm:P.follows .mixedOrders=true) (hT:TabOk P T) (WH:TabDOk P T2) (hr:m.run P T T2 nd mg D f g=true) {args:List Value}{kh:KH}(hf:m.fits args kh=true) (lo:Nat):AF P g lo kh.abs args m.v kh.abs:=by
 simp only[Kept.run,Bool.and_eq_true]at hr
 obtain⟨hv,hr⟩:=hr
 have hv:=(veq_out 8 hv).2
 obtain⟨t,hk,hg⟩:=KJ hr
 have a:=AE.KerD.Dz hm hT WH f _ hk
 simp only[AE.KerD.B5.Spec]at a
 simp only[Kept.fits,Bool.and_eq_true]at hf
 obtain⟨⟨h1,h2⟩,h3⟩:=hf
 obtain⟨rfl,hl⟩:=EY (fun _ _=>Gz 8) h2
 have hle:m.next<=kh.next:=Nat.le_of_ble_eq_true h1
 refine part (h0:=(⟨m.next,t⟩:KH).abs) (h:=kh.abs) (AE.N3.mono a (Nat.le_refl _) fun v h' ⟨Ct,hv,_⟩=>(veq_out 8 hv).1) hv hle (fun r row e=>?_) hl lo
 simp only[KH.abs,Option.map_eq_some_iff]at e
 obtain⟨kr,e,rfl⟩:=e
 rcases hg r kr e with e|⟨x,hx,rfl⟩
 ·rw[KT.get_nil]at e;cases e
 ·obtain⟨q1,q2,q3⟩:=JB h3 r x hx
  exact⟨q1,by simp only[KH.abs,q2];rfl,q3⟩
def Lv (n:Nat):List (Nat × BQ)->Bool
 |[]=>true
 |(r,x)::l=>Nat.blt r n&&Wx n x (some (.row x))&&Lv n l
theorem Oj {n:Nat}:∀{l:List (Nat × BQ)},Lv n l=true->∀r x,(r,x)∈l->r<n/\Qg n x
 |[],_,_,_,h=>nomatch h
 | (r0,x0)::l,h,r,x,hm=>by
   simp only[Lv,Bool.and_eq_true]at h
   rcases List.mem_cons.1 hm with e|hm
   ·cases e
    exact⟨MP h.1.1,(SX h.1.2).2⟩
   ·exact Oj h.2 r x hm
theorem Kept.aw {m:Kept}{P:Program}{T T2:KT KFn}{nd mg:List Nat}{D f g:Nat}(hm:P.follows .mixedOrders=true) (hT:TabOk P T) (WH:TabDOk P T2) (hr:m.run P T T2 nd mg D f g=true) (hs:Lv m.next m.rows=true) (ha:Fs (QH m.next 8) m.args m.args=true)
 {h:H} (hn:m.next<=h.next) (hg:∀r x,(r,x)∈m.rows->h.get r=some x) (lo:Nat):AW P g lo h m.args (fun v h'=>v=m.v/\h'=h):=by
 simp only[Kept.run,Bool.and_eq_true]at hr
 obtain⟨hv,hr⟩:=hr
 have hv:=(veq_out 8 hv).2
 obtain⟨t,hk,hgt⟩:=KJ hr
 have a:=AE.KerD.Dz hm hT WH f _ hk
 simp only[AE.KerD.B5.Spec]at a
 refine⟨m.v,h,⟨rfl,rfl⟩,part (h0:=(⟨m.next,t⟩:KH).abs) (AE.N3.mono a (Nat.le_refl _) fun v h' ⟨Ct,hv,_⟩=>(veq_out 8 hv).1) hv hn (fun r row e=>?_) (EY (fun _ _=>Gz 8) ha).2 lo⟩
 simp only[KH.abs,Option.map_eq_some_iff]at e
 obtain⟨kr,e,rfl⟩:=e
 rcases hgt r kr e with e|⟨x,hx,rfl⟩
 ·rw[KT.get_nil]at e;cases e
 ·obtain⟨q1,q3⟩:=Oj hs r x hx
  exact⟨q1,hg r x hx,q3⟩
noncomputable def hook:List Kept->List Value->KH->(Value->KH->Bool)->Bool
 |[],_,_,_=>false
 |m::ms,args,kh,k=>Bool.rec (motive:=fun _=>Bool) (hook ms args kh k) (k m.v kh) (m.fits args kh)
theorem OP {P:Program}{T T2:KT KFn}{nd mg:List Nat}{D f g:Nat}(hm:P.follows .mixedOrders=true) (hT:TabOk P T) (WH:TabDOk P T2):∀{ms:List Kept},(∀m∈ms,m.run P T T2 nd mg D f g=true)->HookOk P g (hook ms)
 |[],_=>fun _ _ _ _ h=>nomatch h
 | m::ms,hr=>fun lo args kh k h hlo=>by
   have h':Bool.rec (motive:=fun _=>Bool) (hook ms args kh k) (k m.v kh) (m.fits args kh)=true:=h
   cases hf:m.fits args kh with
   |false=>rw[hf]at h';exact OP hm hT WH (fun m hm=>hr m (by simp[hm])) lo args kh k h' hlo
   |true=>rw[hf]at h';exact⟨m.v,kh,h',Kept.af hm hT WH (hr m (by simp)) hf lo⟩
end AE.Memo

/- Code whose calls come to one end each, as code that may come to many. -/
set_option linter.unusedVariables false
namespace AE
open Go
def HG:Ay->Bool
 |.seq a b=>HG a&&HG b
 |.cond _ a b=>HG a&&HG b
 |.block _ c=>HG c
 |.loop c=>HG c
 |.range _ _ _ _ _ _ _=>false
 |_=>true
theorem Run.toD {P:Program}{lo base:Nat}{K:Ts->H->Prop}:∀{xs:List A7} {i:Nat} {ts:Ts} {h:H},Run P lo false base i xs K ts h->JX P lo base i xs K ts h
 |[],_,_,_,h=>h
 | o::rest,i,ts,h,hr=>by
   simp only[Run]at hr
   simp only[JX]
   split
   ·rename_i hw
    rw[if_pos hw]at hr
    cases hi:o.ins with
    | op ao=>
      rw[hi]at hr
      obtain⟨v,h',ha,hr⟩:=hr
      exact⟨v,h',ha,Run.toD hr⟩
    | call f args=>
      rw[hi]at hr
      obtain⟨v,h',ha,hr⟩:=hr
      refine⟨fun o c ro a I w K Q ho ef TS k iF Ub hK=>?_⟩
      exact ha.run o c ro a I w K Q ho ef TS k iF Ub fun J w' hw iv=>hK v h' J w' (Run.toD hr) ha.quiet hw iv
   ·rename_i hw
    rw[if_neg hw]at hr
    exact Run.toD hr
theorem Gy.toD {P:Program}{lo:Nat}:∀(A:Ay) {Q:Exit->Ts->H->Prop},HG A=true->∀ts h,Gy P lo A Q ts h->K4 P lo A Q ts h
 |.skip,_,_,ts,h,w=>w
 |.ret,_,_,ts,h,w=>w
 |.exit _,_,_,ts,h,w=>w
 | .seq a b,Q,hn,ts,h,w=>by
   simp only[HG,Bool.and_eq_true]at hn
   refine AE.KerD.DG a (Q:=EW (Gy P lo b Q) Q) (fun e ts h x=>?_) ts h (Gy.toD a hn.1 ts h w)
   cases e<;>first|exact Gy.toD b hn.2 _ _ x|exact x
 | .cond c a b,Q,hn,ts,h,w=>by
   simp only[HG,Bool.and_eq_true]at hn
   obtain⟨t,e,w⟩:=w
   refine⟨t,e,?_⟩
   split
   ·rename_i ht;rw[if_pos ht]at w;exact Gy.toD a hn.1 _ _ w
   ·rename_i ht;rw[if_neg ht]at w;exact Gy.toD b hn.2 _ _ w
 |.block id c,Q,hn,ts,h,w=>Gy.toD c (Q:=EU id Q) hn ts h w
 | .loop c,Q,hn,ts,h,w=>by
   obtain⟨k,w⟩:=w
   refine⟨k,ME (fun K K' hK ts h x=>?_) k ts h w⟩
   refine AE.KerD.DG c (Q:=EW K Q) (fun e ts h y=>?_) ts h (Gy.toD c hn ts h x)
   cases e<;>first|exact hK _ _ y|exact y
 |.reg ops,Q,_,ts,h,w=>Run.toD w
 |.BN ops ap,Q,_,ts,h,w=>w
 |.next x a b,Q,_,ts,h,w=>w
 |.range _ _ _ _ _ _ _,_,hn,_,_,_=>by simp[HG]at hn
def xj:List Ay->Ay
 |[]=>.skip
 |[a]=>a
 |a::b::l=>.seq a (xj (b::l))
def lZ:List Ay->Ay->Ay
 |[],r=>r
 |a::l,r=>.seq a (lZ l r)
theorem Un {P:Program}{lo:Nat}{Q:Exit->Ts->H->Prop}{r:Ay}:∀{l:List Ay} {ts:Ts} {h:H},K4 P lo (xj l) (fun e ts h=>e= .normal/\K4 P lo r Q ts h) ts h->K4 P lo (lZ l r) Q ts h
 |[],ts,h,w=>w.2
 |[a],ts,h,w=>AE.KerD.DG a (fun e ts h x=>by obtain⟨rfl,x⟩:=x;exact x) ts h w
 |a::b::l,ts,h,w=>AE.KerD.DG a (fun e ts h x=>by
  cases e<;>first|exact Un x|exact absurd x.1 (by simp)) ts h w
end AE

/- The code of run.CheckTable in two: what comes ahead of its range over a map, and the rest. -/
namespace AE.Tryz
open Go AE Go.Proofs
set_option maxRecDepth 1000000
noncomputable def Adi:List Ay:=[
(.reg (
 ⟨(some 2),none,(.op (.box (.t 0) 254))⟩::
 ⟨(some 4),none,(.op (.mv (.c (Value.int .i64 0))))⟩::
 ⟨(some 5),none,(.op (.mv (.c (Value.int .i64 0))))⟩::[])),
(.reg (
 ⟨(some 19),none,(.op (.Az 3 (.t 2)))⟩::
 ⟨(some 20),none,(.call (.c (Value.func (.func 249) #[] #[])) [(.t 19)])⟩::
 ⟨(some 18),none,(.op (.mv (.t 20)))⟩::
 ⟨(some 21),none,(.op (.extract (.t 18) 0))⟩::
 ⟨(some 22),none,(.op (.extract (.t 18) 1))⟩::
 ⟨(some 6),none,(.op (.mv (.t 21)))⟩::
 ⟨(some 7),none,(.op (.mv (.t 22)))⟩::[])),
(.reg (
 ⟨(some 23),none,(.op (.Ai 2 (.t 2)))⟩::
 ⟨(some 24),none,(.op (.Af (.t 23)))⟩::
 ⟨(some 25),none,(.op (.len (.t 24)))⟩::
 ⟨(some 8),none,(.op (.mv (.t 25)))⟩::[])),
(.block 0 (.seq (.reg (
 ⟨(some 27),none,(.op (.mv (.t 7)))⟩::
 ⟨(some 28),none,(.op (.int .neq (.t 27) (.c (Value.int .i64 0))))⟩::
 ⟨(some 26),none,(.op (.mv (.t 28)))⟩::[])) (.cond (.t 26) (.seq (.reg (
 ⟨(some 29),none,(.op (.mv (.t 7)))⟩::
 ⟨(some 4),none,(.op (.mv (.c (Value.int .i64 0))))⟩::
 ⟨(some 5),none,(.op (.mv (.t 29)))⟩::[])) .ret) (.seq (.reg (
 ⟨(some 31),none,(.op (.mv (.t 1)))⟩::
 ⟨(some 32),none,(.op (.len (.t 31)))⟩::
 ⟨(some 33),none,(.op (.mv (.t 8)))⟩::
 ⟨(some 34),none,(.op (.mv (.t 8)))⟩::
 ⟨(some 35),none,(.op (.pure (Fa Tryz.f154 5 4)))⟩::
 ⟨(some 36),none,(.op (.int .neq (.t 32) (.t 35)))⟩::
 ⟨(some 30),none,(.op (.mv (.t 36)))⟩::[])) (.cond (.t 30) (.seq (.reg (
 ⟨(some 4),none,(.op (.mv (.c (Value.int .i64 0))))⟩::
 ⟨(some 5),none,(.op (.mv (.c (Value.int .i64 15))))⟩::[])) .ret) (.seq (.reg (
 ⟨(some 38),none,(.op (.mv (.t 1)))⟩::
 ⟨(some 39),none,(.call (.c (Value.func (.func 223) #[] #[])) [(.t 38)])⟩::
 ⟨(some 40),none,(.op (.int .lss (.t 39) (.c (Value.int .i64 0))))⟩::
 ⟨(some 41),none,(.op (.mv (.t 40)))⟩::
 ⟨(some 42),(some (41,false)),(.op (.mv (.t 1)))⟩::
 ⟨(some 43),(some (41,false)),(.call (.c (Value.func (.func 224) #[] #[])) [(.t 42)])⟩::
 ⟨(some 44),(some (41,false)),(.op (.int .gtr (.t 43) (.c (Value.int .i64 1048576))))⟩::
 ⟨(some 45),none,(.op (.pick (.t 41) (.c (Value.bool true)) (.t 44)))⟩::
 ⟨(some 37),none,(.op (.mv (.t 45)))⟩::[])) (.cond (.t 37) (.seq (.reg (
 ⟨(some 4),none,(.op (.mv (.c (Value.int .i64 0))))⟩::
 ⟨(some 5),none,(.op (.mv (.c (Value.int .i64 3))))⟩::[])) .ret) .skip))))))),
(.reg (
 ⟨(some 46),none,(.op (.LO))⟩::
 ⟨(some 9),none,(.op (.mv (.t 46)))⟩::[])),
(.seq (.reg (
 ⟨(some 47),none,(.op (.mv (.t 1)))⟩::
 ⟨(some 48),none,(.op (.len (.t 47)))⟩::
 ⟨(some 49),none,(.op (.mv (.c (Value.int .i64 0))))⟩::[])) (.block 1 (.loop (.seq (.reg (
 ⟨(some 50),none,(.op (.int .lss (.t 49) (.t 48)))⟩::[])) (.seq (.cond (.t 50) .skip (.exit 1)) (.seq (.block 2 (.seq (.reg (
 ⟨(some 51),none,(.op (.mv (.t 49)))⟩::
 ⟨(some 52),none,(.op (.Bb 1 (.t 47) (.t 49)))⟩::
 ⟨(some 53),none,(.op (.Af (.t 52)))⟩::
 ⟨(some 10),none,(.op (.mv (.t 51)))⟩::
 ⟨(some 11),none,(.op (.mv (.t 53)))⟩::[])) (.BN (
 ⟨(some 54),none,(.op (.mv (.t 9)))⟩::
 ⟨(some 55),none,(.op (.mv (.t 10)))⟩::
 ⟨(some 56),none,(.op (.mv (.t 8)))⟩::
 ⟨(some 57),none,(.op (.EV true (.t 55) (.t 56)))⟩::
 ⟨(some 58),none,(.op (.mv (.t 10)))⟩::
 ⟨(some 59),none,(.op (.mv (.t 8)))⟩::
 ⟨(some 60),none,(.op (.EV false (.t 58) (.t 59)))⟩::
 ⟨(some 61),none,(.op (.build [Value.int .i64 0,Value.int .i64 0] [(0,1,(.t 57)),(1,1,(.t 60))]))⟩::
 ⟨(some 62),none,(.op (.mv (.t 11)))⟩::
 ⟨none,none,(.op (.Ig 383 (.t 54) (.t 61) (.t 62)))⟩::[]) []))) (.reg (
 ⟨(some 63),none,(.op (.int .add (.t 49) (.c (Value.int .i64 1))))⟩::
 ⟨(some 49),none,(.op (.mv (.t 63)))⟩::[])))))))),
(.reg (
 ⟨(some 12),none,(.op (.mv (.c (Value.int .i64 0))))⟩::[])),
(.reg (
 ⟨(some 64),none,(.op (.build [Value.int .i64 0,Value.int .i64 0] [(0,1,(.c (Value.int .i64 0))),(1,1,(.c (Value.int .i64 0)))]))⟩::
 ⟨(some 13),none,(.op (.alloc [Value.int .i64 0,Value.int .i64 0] 383))⟩::
 ⟨none,none,(.op (.store 2 (.t 13) (.t 64)))⟩::[])),
(.reg (
 ⟨(some 65),none,(.op (.Az 2 (.t 13)))⟩::
 ⟨(some 14),none,(.op (.alloc [Value.int .i64 0,Value.int .i64 0] 383))⟩::
 ⟨none,none,(.op (.store 2 (.t 14) (.t 65)))⟩::[])),
.skip]
noncomputable def rY:Ay:=(.seq (.seq (.reg (
 ⟨(some 66),none,(.op (.mv (.t 9)))⟩::
 ⟨(some 67),none,(.op (.GI (.t 66)))⟩::[])) (.block 3 (.loop (.seq (.next (.t 67) 68 69) (.seq (.cond (.t 69) .skip (.exit 3)) (.block 4 (.seq (.reg (
 ⟨(some 70),none,(.op (.entry (.t 67)))⟩::
 ⟨(some 71),none,(.op (.extract (.t 70) 0))⟩::
 ⟨(some 72),none,(.op (.extract (.t 70) 1))⟩::
 ⟨(some 15),none,(.op (.alloc [Value.int .i64 0,Value.int .i64 0] 383))⟩::
 ⟨none,none,(.op (.store 2 (.t 15) (.t 71)))⟩::
 ⟨(some 16),none,(.op (.mv (.t 72)))⟩::[])) (.seq (.reg (
 ⟨(some 73),none,(.op (.Ai 0 (.t 15)))⟩::
 ⟨(some 74),none,(.op (.Af (.t 73)))⟩::
 ⟨(some 75),none,(.op (.Ai 1 (.t 15)))⟩::
 ⟨(some 76),none,(.op (.Af (.t 75)))⟩::
 ⟨(some 77),none,(.op (.pure (Fa Tryz.f154 21 4)))⟩::
 ⟨(some 78),none,(.op (.pure (Fa Tryz.f154 21 5)))⟩::
 ⟨(some 79),none,(.op (.int .eql (.t 78) (.c (Value.int .i64 1))))⟩::
 ⟨(some 17),none,(.op (.mv (.t 79)))⟩::[])) (.block 5 (.seq (.reg (
 ⟨(some 81),none,(.op (.mv (.t 17)))⟩::
 ⟨(some 82),none,(.op (.not (.t 81)))⟩::
 ⟨(some 83),none,(.op (.mv (.t 82)))⟩::
 ⟨(some 84),(some (83,true)),(.op (.mv (.t 16)))⟩::
 ⟨(some 85),(some (83,true)),(.op (.int .neq (.t 84) (.c (Value.int .i64 1048576))))⟩::
 ⟨(some 86),none,(.op (.pick (.t 83) (.t 85) (.c (Value.bool false))))⟩::
 ⟨(some 87),none,(.op (.mv (.t 86)))⟩::
 ⟨(some 88),(some (87,false)),(.op (.mv (.t 17)))⟩::
 ⟨(some 89),(some (87,false)),(.op (.mv (.t 88)))⟩::
 ⟨(some 90),(some (89,true)),(.op (.mv (.t 16)))⟩::
 ⟨(some 91),(some (89,true)),(.op (.mv (.t 6)))⟩::
 ⟨(some 92),(some (89,true)),(.op (.mv (.t 9)))⟩::
 ⟨(some 93),(some (89,true)),(.op (.Az 2 (.t 15)))⟩::
 ⟨(some 94),(some (89,true)),(.call (.c (Value.func (.func 256) #[] #[])) [(.t 91),(.t 92),(.t 93)])⟩::
 ⟨(some 95),(some (89,true)),(.op (.int .gtr (.t 90) (.t 94)))⟩::
 ⟨(some 96),(some (87,false)),(.op (.pick (.t 89) (.t 95) (.c (Value.bool false))))⟩::
 ⟨(some 97),none,(.op (.pick (.t 87) (.c (Value.bool true)) (.t 96)))⟩::
 ⟨(some 80),none,(.op (.mv (.t 97)))⟩::[])) (.cond (.t 80) (.seq (.reg (
 ⟨(some 98),none,(.op (.Ai 0 (.t 15)))⟩::
 ⟨(some 99),none,(.op (.Af (.t 98)))⟩::
 ⟨(some 100),none,(.op (.Ai 1 (.t 15)))⟩::
 ⟨(some 101),none,(.op (.Af (.t 100)))⟩::
 ⟨(some 102),none,(.op (.int .add (.t 101) (.c (Value.int .i64 1))))⟩::
 ⟨(some 103),none,(.op (.build [Value.int .i64 0,Value.int .i64 0] [(0,1,(.t 99)),(1,1,(.t 102))]))⟩::
 ⟨none,none,(.op (.store 2 (.t 14) (.t 103)))⟩::[])) (.exit 3)) (.seq (.reg (
 ⟨(some 105),none,(.op (.mv (.t 17)))⟩::
 ⟨(some 106),none,(.op (.mv (.t 105)))⟩::
 ⟨(some 107),(some (106,true)),(.op (.mv (.t 16)))⟩::
 ⟨(some 108),(some (106,true)),(.op (.int .lss (.t 107) (.c (Value.int .i64 1048576))))⟩::
 ⟨(some 109),none,(.op (.pick (.t 106) (.t 108) (.c (Value.bool false))))⟩::
 ⟨(some 104),none,(.op (.mv (.t 109)))⟩::[])) (.cond (.t 104) (.reg (
 ⟨(some 110),none,(.op (.mv (.t 12)))⟩::
 ⟨(some 111),none,(.op (.Ai 0 (.t 15)))⟩::
 ⟨(some 112),none,(.op (.Af (.t 111)))⟩::
 ⟨(some 113),none,(.op (.conv .u64 (.t 112)))⟩::
 ⟨(some 114),none,(.call (.c (Value.func (.func 257) #[] #[])) [(.t 113)])⟩::
 ⟨(some 115),none,(.op (.Il true (.t 110) (.t 114)))⟩::
 ⟨(some 12),none,(.op (.mv (.t 115)))⟩::[])) .skip))))))))))))) (.seq (.seq (.reg (
 ⟨(some 116),none,(.op (.Az 2 (.t 14)))⟩::
 ⟨(some 117),none,(.op (.Az 2 (.t 13)))⟩::
 ⟨(some 118),none,(.op (.pure (Fa Tryz.f154 26 2)))⟩::[])) (.cond (.t 118) (.seq (.reg (
 ⟨(some 4),none,(.op (.mv (.c (Value.int .i64 0))))⟩::
 ⟨(some 5),none,(.op (.mv (.c (Value.int .i64 14))))⟩::[])) .ret) .skip)) (.seq (.reg (
 ⟨(some 119),none,(.op (.mv (.t 12)))⟩::
 ⟨(some 4),none,(.op (.mv (.t 119)))⟩::
 ⟨(some 5),none,(.op (.mv (.c (Value.int .i64 0))))⟩::[])) .ret)))
def Acy:List ResultVar:=[.tmp 4,.tmp 5]
set_option maxHeartbeats 4000000 in
theorem t7:dr Tryz.prog 154 120 2 (lZ Adi rY) Acy:=
 ⟨rfl,M9,Tryz.f154,_,rfl,rfl,rfl,by decide,rfl,rfl,rfl⟩
end AE.Tryz
