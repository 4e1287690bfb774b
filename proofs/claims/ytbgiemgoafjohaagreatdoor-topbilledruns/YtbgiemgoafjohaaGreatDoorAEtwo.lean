/- The evaluator and its laws: AEAppend, AEMaps, AEMaps2, AEMaps3, AEBenign, AEWrap, AEMach, AEReg, AEVer, AETrace, AEDraw, AEDreg, AECut, AEScope, AEYield, AEDemon, AECode. No program in sight. -/
import Derived.Test.YtbgiemgoafjohaaGreatDoorAEone
import Derived.Maps.RangeRun
import Derived.OrdersIn
import Derived.RangeFuncIn
import Derived.RangeFuncLeaves
set_option linter.unusedVariables false
set_option linter.unusedSimpArgs false
set_option linter.unusedSectionVars false

/- append and copy. -/
namespace AE
open Go Go.RowKit

theorem ML:0<far:=by unfold far;omega
theorem Pt (L:Nat):∀(k c:Nat),256<=c->Builtin.growBy L k c<=2^k*c
 |0,c,_=>by simp[Builtin.growBy]
 | k +1,c,h=>by
   simp only[Builtin.growBy]
   split
   ·have:1<=2^(k+1):=Nat.one_le_two_pow
    calc c=1*c:=by omega
     _<=2^(k+1) *c:=Nat.mul_le_mul_right c this
   ·have h1:(c+768) / 4<=c:=by omega
    have ih:=Pt L k (c+(c+768) / 4) (by omega)
    calc Builtin.growBy L k (c+(c+768) / 4)<=2^k* (c+(c+768) / 4):=ih
     _<=2^k* (2*c):=Nat.mul_le_mul_left _ (by omega)
     _=2^(k+1) *c:=by rw[Nat.pow_succ];simp[Nat.mul_assoc]
theorem nextslicecap_le {need cap:Nat}(h:cap<need):Builtin.nextslicecap need cap<=16*need:=by
 unfold Builtin.nextslicecap
 split
 ·omega
 ·split
  ·omega
  ·have:=Pt need 4 cap (by omega)
   omega

section
variable {P:Program}{I:Al}{ts:Ts}{ρ:Operand->Value}

theorem CO {h:H}{w:World}{sz n:Nat}{v:Value}{l:List Value}(k:∀a len cap row,v= .slice (some a) len cap->cap<far->h.get a.block=some row->Bw I a.block w row) (hi:In I v) (hl:Ca h sz n v=some l):
 (Builtin.firstCells sz n (ren I v)).run P w= .ok ⟨Ah I l⟩ w/\BH I l/\((∀len cap,v≠ .slice none len cap)->l.length=n*sz):=by
 unfold Ca at hl
 split at hl
 ·rename_i a len cap
  split at hl
  ·rename_i hf
   split at hl<;>simp at hl
   rename_i hn
   subst hl hn
   rw[I8 hf]at hi
   obtain⟨rfl, -⟩:=hi
   exact⟨by rw[CR hf];simp[Builtin.firstCells,loadCells,loadCellsFrom,Ah],by simp[BH],fun _=>by simp⟩
  rename_i hf
  have hf:=Nat.not_le.1 hf
  rw[B8 hf]at hi
  cases hg:h.get a.block with
  |none=>simp[H.Az,hg]at hl
  | some row=>
    obtain⟨b,hb,hbs,il,hlen,hcell⟩:=HE hg (k a len cap row rfl hf hg) hi.1 hl
    have hc:=Gs (P:=P) hcell
    rw[hlen]at hc
    refine⟨by simp only[BD hf,hb,Builtin.firstCells];exact hc,il,fun _=>hlen⟩
 ·rename_i len cap
  simp at hl;subst hl
  exact⟨by simp[ren,Builtin.firstCells,Ah],by simp[BH],fun e=>absurd rfl (e _ _)⟩
 ·rename_i s
  split at hl<;>simp at hl
  rename_i hsz
  subst hl
  have hf:B7 (Od s n)=true:=by
   unfold Od
   induction (s.extract 0 n).data.toList with
   |nil=>rfl
   |cons b bs ih=>simp[B7,flat]at ih⊢;exact ih
  obtain⟨e,i⟩:=CN I _ hf
  refine⟨?_,i,fun _=>by rw[hsz.1];simp[Od];omega⟩
  rw[e]
  simp[ren,Builtin.firstCells,Od]
  apply Array.ext'
  simp
 ·simp at hl

theorem DU (z:Array Value) (n:Nat):(Builtin.zeroCells z n).size=n*z.size:=by simp[Builtin.zeroCells]


theorem Rel.drew {h:H}{w:World}(k:Rel I h w):Rel I h w.drew:=
 ⟨fun r row e d=>(k.rows r row e d).le (Le.refl I) (fun _ _ e=>e) (fun _ _=>rfl),k.lt,k.size,k.base,k.tabs,k.inj,k.clean⟩
theorem Ext.drew (I:Al) (lo:Nat) (w:World):Ext I lo w w.drew:=⟨rfl,rfl,rfl,Nat.le_refl _,fun _ _ _=>rfl⟩
theorem AQ {a:Addr}(h:Jt I a):I.dom a.block:=by obtain⟨p,hp⟩:=h;exact⟨_,p,hp⟩

theorem CW {v:Value}{n:Nat}(h:Eh v=some n) (w:World):(Builtin.lenOf (ren I v)).run P w= .ok n w:=by
 unfold Eh at h
 split at h
 ·rename_i a len cap
  simp at h;subst h
  cases a with
  |none=>simp[ren,Builtin.lenOf]
  |some a=>rcases Nat.lt_or_ge cap far with hc|hc<;>simp[BD,CR,hc,Builtin.lenOf]
 ·simp at h;subst h;simp[ren,Builtin.lenOf]
 ·simp at h

theorem Fh {t u e ty:TypeId}{d:TypeDesc}{sz n sLen sCap:Nat}{base:Option Addr}{x:Value}{new:Array Value}{w:World}(ht:P.underlying t=some (.slice e)) (hu:P.underlying u=some d) (hd:∀k,d≠ .int k)
 (hs:sizeT P e=some sz) (hn:(Builtin.lenOf x).run P w= .ok n w) (hfit:sLen+n<=sCap) (hnew:(Builtin.firstCells sz n x).run P w= .ok new w):
 (Builtin.append_ #[t,u] ty #[.slice base sLen sCap,x]).run P w=
  match base with
  |some a=>((storeCells (a.add (sLen*sz)) new.toList).run P w).andThen fun _ w'=>.ok (.slice (some a) (sLen+n) sCap) w'
  |none=>.ok (.slice none (sLen+n) sCap) w:=by
 unfold Builtin.append_
 simp[run_underlying ht,run_underlying hu,Bu hs,hn,hfit,hnew]
 cases base<;>simp


theorem Fw {t u e ty:TypeId}{d:TypeDesc}{sz n sLen sCap:Nat}{base:Option Addr}{x z:Value}{ie:TypeInfo}{old new:Array Value}{w:World}(ht:P.underlying t=some (.slice e)) (hu:P.underlying u=some d) (hd:∀k,d≠ .int k)
 (hi:P.info? e=some ie) (hsz:ie.size=sz) (hzv:∀w,(zeroValue e).run P w= .ok z w) (hn:(Builtin.lenOf x).run P w= .ok n w) (hfit:sCap<sLen+n) (hsm:small (sLen+n) ie.bytes)
 (hold:(Builtin.firstCells sz sLen (.slice base sLen sCap)).run P w.drew= .ok old w.drew) (hnew:(Builtin.firstCells sz n x).run P w.drew= .ok new w.drew):
 ∃C,sLen+n<=C/\(Builtin.append_ #[t,u] ty #[.slice base sLen sCap,x]).run P w=
  .ok (.slice (some ⟨w.heap.size,0,none⟩) (sLen+n) C) (w.drew.alloc (.cells (old++new++Builtin.zeroCells z.cells (C - (sLen+n))) e)):=by
 refine⟨sLen+n+w.tape w.drawn (.appendCap (sLen+n) sCap e)%(2^63 - (sLen+n)),by omega,?_⟩
 have hs:sizeT P e=some sz:=by simp[sizeT,hi,hsz]
 unfold small at hsm
 have hle:sLen+n+1<=2^40:=Nat.le_trans (Nat.le_mul_of_pos_right _ (by omega)) hsm
 have hb:(sLen+n) *ie.bytes<=2^40:=Nat.le_trans (Nat.mul_le_mul (by omega) (by omega)) hsm
 have hcap:=nextslicecap_le hfit
 have hcb:Builtin.nextslicecap (sLen+n) sCap*ie.bytes<=2^48:=by
  have:Builtin.nextslicecap (sLen+n) sCap*ie.bytes<=16* (sLen+n) *ie.bytes:=Nat.mul_le_mul_right _ hcap
  rw[Nat.mul_assoc]at this
  omega
 have h1:¬(sLen+n<=sCap):=by omega
 have h2:¬((9223372036854775807:Int)<(sLen:Int)+(n:Int)/\ie.bytes=0):=by omega
 have h3:¬(281474976710656<Builtin.nextslicecap (sLen+n) sCap*ie.bytes):=by omega
 have h4:(Question.appendCap (sLen+n) sCap e).forced=false:=rfl
 have h5:∀t,(Question.appendCap (sLen+n) sCap e).cut t=sLen+n+t%(2^63 - (sLen+n)):=fun t=>rfl
 unfold Builtin.append_
 simp[run_underlying ht,run_underlying hu,Bu hs,hn,h1,run_typeInfo _ hi,h2,h3,h4,hold,hnew,hzv,h5,newRow]


theorem NP {a:Addr}{n c:Nat}(h:C6 I a n c):n<=Bq I a c:=by
 unfold C6 at h
 unfold Bq
 cases hs:a.spot with
 |none=>rw[hs]at h;exact h
 | some g=>
   rw[hs]at h
   simp only at h⊢
   split at h
   ·rename_i hc;simp only[hc,if_true];exact h
   ·rename_i hc;simp only[hc,if_false];omega

theorem Rel.CS {h:H}{w:World}(k:Rel I h w) {Av:Nat}(hn:¬I.dom Av) (hr:Av<h.next) {c:List Value}(hc:BH I c) {e m sz C:Nat}(hlen:c.length=m*sz) (hm:m<=C) (zs:Array Value) (hzs:zs.size=(C - m) *sz):
 let J:=I.plus Av (some 0) w.heap.size C
 Rel J (h.put Av (.grow c e sz [c.length] 0)) (w.drew.alloc (.cells (⟨Ah I c⟩++zs) e))/\BA I J w/\Ext I Av w (w.drew.alloc (.cells (⟨Ah I c⟩++zs) e))/\ren J (.slice (some ⟨Av,0,some 0⟩) m 0)= .slice (some ⟨w.heap.size,0,none⟩) m C/\In J (.slice (some ⟨Av,0,some 0⟩) m 0):=by
 intro J
 have hle:Le I J:=Le.plus (Dh hn _)
 obtain⟨er,ir⟩:=hle.Ah c hc
 have hat:J.at_ Av (some 0)=some (w.heap.size,0):=Al.Ax ..
 have hcap:J.cap Av 0=C:=by simp[J,Al.plus]
 refine⟨?_,BA.plus (Dh hn _) (.inl (Nat.le_refl _)),⟨rfl,rfl,rfl,by simp,fun b hb _=>heap_alloc_old w.drew _ hb⟩,?_,?_⟩
 ·have z:∀g p,J.at_ Av (some g)=some p->g=0:=fun g p e'=>by
   by_cases hg:g=0
   ·exact hg
   ·rw[Al.Ay (by simp[hg])]at e'
    exact absurd ⟨_,_,e'⟩ hn
  refine k.drew.new hn hr (some 0) C _ ⟨ir,rfl,by simp,fun g p e'=>by rw[z g p e'];simp,fun g g' b d d' _ _ x1 x2=>?_,fun g hg hl=>?_⟩
  ·obtain rfl:=z _ _ x1
   obtain rfl:=z _ _ x2
   have x1:J.at_ Av (some 0)=some (b,d):=x1
   have x2:J.at_ Av (some 0)=some (b,d'):=x2
   rw[x1]at x2;simp at x2;exact x2
  ·obtain rfl:g=0:=by simpa using hl
   refine⟨w.heap.size,0,⟨Ah I c⟩++zs,hat,k.base,heap_alloc w.drew _,?_,?_,?_⟩
   ·simp[Ea]
   ·show _=0+J.cap Av 0*sz
    rw[hcap,Nat.zero_add]
    simp only[Array.size_append,List.size_toArray,Bp,hlen,hzs,<-Nat.add_mul]
    congr 1;omega
   ·intro i hi
    simp only[Ea,List.length_cons,List.length_nil,Nat.zero_add,Nat.sub_self,List.getElem?_cons_zero,Option.getD_some]at hi
    rw[Nat.zero_add,Array.getElem?_append,if_pos (by simpa using hi)]
    show _=(Ah J c)[i]?
    rw[er]
    simp
 ·rw[BD ML]
  simp only[Cx,hat,Bq,hcap]
  simp
 ·rw[B8 ML]
  simp only[Jt,C6,hat,hcap]
  exact⟨⟨_,rfl⟩,by simpa using hm⟩


theorem H7 {v:Value}{n sz:Nat}(h:Eh v=some n) (w:World):(Builtin.firstCells sz 0 (ren I v)).run P w= .ok #[] w:=by
 unfold Eh at h
 split at h
 ·rename_i a len cap
  cases a with
  |none=>simp[ren,Builtin.firstCells]
  | some a=>
    rcases Nat.lt_or_ge cap far with hc|hc
    ·rw[BD hc]
     cases Cx I a<;>simp[Builtin.firstCells,loadCells,loadCellsFrom]
    ·rw[CR hc]
     simp[Builtin.firstCells,loadCells,loadCellsFrom]
 ·simp[ren,Builtin.firstCells]
 ·simp at h

theorem Dm {x:Nat}{lens:List Nat}{g:Nat}(h:g<lens.length):Ea (x::lens) g=Ea lens g:=by
 unfold Ea
 simp only[List.length_cons]
 rw[show lens.length+1 - 1 - g=(lens.length - 1 - g)+1 by omega,List.getElem?_cons_succ]
theorem Ek {x:Nat}{lens:List Nat}:Ea (x::lens) lens.length=x:=by
 unfold Ea
 simp

section sims
variable {o:Oper}{t u e:TypeId}{d:TypeDesc}{x y:Operand}{x' y':AP}{ie:TypeInfo}{z:Value}{lo Av:Nat}{h h':H}{w:World}{v:Value}

theorem Cr (ho:o.op= .call ⟨.builtin .append, #[x,y], #[t,u]⟩) (w:World):(execOp ρ o).run P w=((Builtin.append_ #[t,u] o.type #[ρ x,ρ y]).run P w).andThen fun a w'=>.ok (.value a) w':=by
 simp[execOp,ho,resolve,invoke,builtin]

theorem OV (hρ:Ev I ts ρ) (ho:o.op= .call ⟨.builtin .append, #[x,y], #[t,u]⟩) (ht:P.underlying t=some (.slice e)) (hu:P.underlying u=some d) (hd:∀k,d≠ .int k) (hi:P.info? e=some ie)
 (hz:DT P e=some z) (vB:ie.size≠0) (hzl:(Aq z).length=ie.size) (hx:AJ x=some x') (hy:AJ y=some y') (k:Rel I h w) (Gl:¬I.dom Av) (hnx:Av<h.next) (hlo:lo<=Av)
 {a:Addr} {len cap c n:Nat} {nc:List Value} (hs:ev ts x'= .slice (some a) len cap) (hcf:cap<far) (hcap:Bq I a cap=c) (Hg:∀m,m<=c->C6 I a m cap) (hn:Eh (ev ts y')=some n) (hnc:Ca h ie.size n (ev ts y')=some nc) (hn0:n≠0)
 (ha:EZ lo Av e ie.size ie.bytes a len cap c n nc h=some (v,h')):Ie P I ρ o lo Av h' v w:=by
 obtain⟨e1,i1⟩:=hρ x x' hx
 obtain⟨e2,i2⟩:=hρ y y' hy
 rw[hs]at e1 i1
 rw[B8 hcf]at i1
 rw[BD hcf,hcap]at e1
 have hsz:sizeT P e=some ie.size:=by simp[sizeT,hi]
 have hyl:(∀l c',ev ts y'≠ .slice none l c'):=by
  intro l c' hyn
  rw[hyn]at i2 hn
  simp only[In]at i2
  simp[Eh]at hn
  omega
 have Za:∀(a:Addr) len cap row,ev ts y'= .slice (some a) len cap->cap<far->h.get a.block=some row->Bw I a.block w row:=fun a len cap row hy' hf hg=>by
  rw[hy']at i2
  exact k.rows _ _ hg (AQ (by rw[B8 hf]at i2;exact i2.1))
 obtain⟨b,hb⟩:=CK i1.1
 rw[hb]at e1
 unfold EZ at ha
 split at ha
 ·rename_i hfit
  simp only[Option.map_eq_some_iff,Prod.mk.injEq]at ha
  obtain⟨h'',hst,rfl,rfl⟩:=ha
  obtain⟨c1,inc, -⟩:=CO (P:=P) Za i2 hnc
  obtain⟨ia,ea⟩:=G0 i1.1 (len*ie.size)
  have hblk:(BB a (len*ie.size)).block=a.block:=rfl
  cases hg:h.get a.block with
  | none=>
    unfold H.Df at hst
    rw[hblk,hg]at hst
    split at hst<;>simp at hst
  | some row=>
    obtain⟨Zw,b',row',w',hb',rfl,hrun,hrow,B2,hbase,hat⟩:=Gq (P:=P) (a:=BB a (len*ie.size)) hg (k.rows _ _ hg (AQ i1.1)) ia inc hst
    rw[ea,hb]at hb'
    simp only[Option.map_some,Option.some.injEq]at hb'
    obtain⟨s0,d0,hs0⟩:=hat
    refine⟨I,w',_,⟨BA.refl I w,fun _ d=>.inl d,fun _ _ _ _ e=>e⟩,k.store hbase ⟨s0,_,hs0⟩ B2 hrow,?_,B2.ext Zw hs0 hbase,?_,.inl rfl⟩
    ·rw[B8 hcf]
     exact⟨i1.1,Hg _ hfit⟩
    ·rw[Cr ho,e1,e2,Fh ht hu hd hsz (CW hn w) hfit c1]
     simp only[hb',hrun,Result.andThen_ok,BD hcf,hb,hcap]
 ·rename_i hfit
  split at ha
  ·rename_i hsm
   simp only[Option.bind_eq_some_iff]at ha
   obtain⟨oc,hoc,ha⟩:=ha
   simp only[CS,Option.some.injEq,Prod.mk.injEq]at ha
   obtain⟨rfl,rfl⟩:=ha
   have kd:=k.drew
   obtain⟨c1,inc,hl1⟩:=CO (P:=P) (w:=w.drew) (fun a len cap row hy' hf hg=>kd.rows _ _ hg (AQ (by rw[hy']at i2;rw[B8 hf]at i2;exact i2.1))) i2 hnc
   have Zv:Ca h ie.size len (.slice (some a) len cap)=some oc:=by simp only[Ca];rw[if_neg (Nat.not_le.2 hcf)];exact hoc
   obtain⟨c2,uG,hl2⟩:=CO (P:=P) (w:=w.drew) (fun a' len' cap' row hy' _ hg=>kd.rows _ _ hg (by simp at hy';rw[<-hy'.1];exact AQ i1.1)) (by rw[B8 hcf];exact i1) Zv
   rw[BD hcf,hb,hcap]at c2
   obtain⟨C,hC,hrun⟩:=Fw (P:=P) (t:=t) (u:=u) (ty:=o.type) ht hu hd hi rfl (fun w=>(BG hz w).1) (CW (I:=I) hn w) (by omega) hsm.1 c2 c1
   have hlen:(oc++nc).length=(len+n) *ie.size:=by
    rw[List.length_append,hl2 (fun _ _ e=>by simp at e),hl1 hyl,Nat.add_mul]
   obtain⟨r1,r2,r3,r4,r5⟩:=k.CS (e:=e) Gl hnx (B4.2 ⟨uG,inc⟩) hlen hC (Builtin.zeroCells z.cells (C - (len+n))) (by rw[DU,C4];simp[hzl])
   refine⟨_,_,_,⟨r2,fun _ d=>Al.BI d,Al.Er hlo⟩,r1,r5,r3.mono hlo,?_,.inl rfl⟩
   rw[Cr ho,e1,e2,hrun,r4]
   simp[BM]
  ·simp at ha

theorem Yq (hρ:Ev I ts ρ) (ho:o.op= .call ⟨.builtin .append, #[x,y], #[t,u]⟩) (ht:P.underlying t=some (.slice e)) (hu:P.underlying u=some d) (hd:∀k,d≠ .int k) (hi:P.info? e=some ie)
 (hz:DT P e=some z) (hzl:(Aq z).length=ie.size) (hx:AJ x=some x') (hy:AJ y=some y') (k:Rel I h w)
 {a:Addr} {g len cap n valid:Nat} {c:List Value} {lens:List Nat} {nc:List Value} (hs:ev ts x'= .slice (some a) len cap) (hcf:cap<far) (hsp:a.spot=some g) (hg:h.get a.block=some (.grow c e ie.size lens valid)) (hn:Eh (ev ts y')=some n) (hnc:Ca h ie.size n (ev ts y')=some nc) (hn0:n≠0)
 (hlo:lo<=a.block) (hval:valid<=g) (hg1:g+1=lens.length) (hev:cap%2=0) (hoff:a.off=cap / 2*ie.size) (hcl:a.off+len*ie.size=c.length) (hsm:small (len+n) ie.bytes) (hone:nc.all Value.oneCell'=true):
 Ie P I ρ o lo Av (h.put a.block (.grow (c.drop a.off++nc) e ie.size ((len*ie.size+nc.length)::lens.map fun _=>0) (g+1))) (.slice (some ⟨a.block,0,some (g+1)⟩) (len+n) 0) w:=by
 obtain⟨e1,i1⟩:=hρ x x' hx
 obtain⟨e2,i2⟩:=hρ y y' hy
 rw[hs]at e1 i1
 rw[B8 hcf]at i1
 have hsz:sizeT P e=some ie.size:=by simp[sizeT,hi]
 have hyl:(∀l c',ev ts y'≠ .slice none l c'):=by
  intro l c' hyn
  rw[hyn]at i2 hn
  simp only[In]at i2
  simp[Eh]at hn
  omega
 have hrow:=k.rows _ _ hg (AQ i1.1)
 obtain⟨ic,lz,lu,hgen,hof,hmain⟩:=hrow
 obtain⟨p,hp⟩:=i1.1
 rw[hsp]at hp
 have Ur:g<lens.length:=hgen g p hp
 have hgl:Ea lens g=c.length:=by
  unfold Ea
  rw[show lens.length - 1 - g=0 by omega]
  cases lens with
  |nil=>simp at Ur
  |cons q qs=>simp at lz⊢;exact lz
 obtain⟨b,d,C,hat,hbase,hheap,hle,cJ,hcell⟩:=hmain g hval Ur
 have hic:cap / 2+len<=I.cap a.block g:=by
  have:=i1.2
  unfold C6 at this
  rw[hsp]at this
  simp only at this
  rwa [if_neg (by omega)]at this
 have hca:Bq I a cap=I.cap a.block g - cap / 2:=by simp only[Bq,hsp];rw[if_neg (by omega)]
 have hra:Cx I a=some ⟨b,d+a.off,none⟩:=by simp[Cx,hsp,hat]
 rw[BD hcf,hra,hca]at e1
 have hfresh:I.at_ a.block (some (g+1))=none:=by
  cases hc':I.at_ a.block (some (g+1))with
  |none=>rfl
  |some q=>have:=hgen _ _ hc';omega
 have kd:=k.drew
 have hlast:lens.length=g+1:=by omega
 have hcut:(c.drop a.off).length=len*ie.size:=by rw[List.length_drop];omega
 have uJ:BH I (c.drop a.off):=by
  refine MP (off:=a.off) (n:=len*ie.size) ic ?_
  unfold cut
  rw[if_pos (by omega)]
  congr 1
  rw[List.take_of_length_le (by omega)]
 have hrd:Ah I (c.drop a.off)=(Ah I c).drop a.off:=by
  have:Ah I c=Ah I (c.take a.off)++Ah I (c.drop a.off):=by rw[<-BM,List.take_append_drop]
  rw[this,List.drop_append_of_le_length (by simp;omega)]
  simp
  omega
 have hmul:I.cap a.block g*ie.size=cap / 2*ie.size+(I.cap a.block g - cap / 2) *ie.size:=by rw[<-Nat.add_mul];congr 1;omega
 -- what it comes to, wherever the new one lies
 have main:∀(J:Al) (b' d' Cp:Nat) (D:Array Value) (w':World),J=I.plus a.block (some (g+1)) b' Cp d'->(w.heap.size<=b'\/b'=b)->I.base<=b'->w'.heap[b']? =some (.cells D e (0,0))->D.size=d'+Cp*ie.size->len+n<=Cp->(∀i,i<len*ie.size+nc.length->D[d'+i]? =(Ah I (c.drop a.off++nc))[i]?)->BH I nc->nc.length=n*ie.size->w.heap.size<=w'.heap.size->b'<w'.heap.size->(∀b'',b''<w.heap.size->b''≠b'->w'.heap[b'']? =w.heap[b'']?)->
  Rel J (h.put a.block (.grow (c.drop a.off++nc) e ie.size ((len*ie.size+nc.length)::lens.map fun _=>0) (g+1))) w'/\In J (.slice (some ⟨a.block,0,some (g+1)⟩) (len+n) 0)/\ren J (.slice (some ⟨a.block,0,some (g+1)⟩) (len+n) 0)= .slice (some ⟨b',d',none⟩) (len+n) Cp:=by
  rintro J b' d' Cp D w' rfl hb' hbs hD hDs hfit hcl' inc hnl hsz' hblt hkeep
  have hle':Le I (I.plus a.block (some (g+1)) b' Cp d'):=Le.plus hfresh
  have Hg:(I.plus a.block (some (g+1)) b' Cp d').cap a.block (g+1)=Cp:=by simp[Al.plus]
  obtain⟨er,ir⟩:=hle'.Ah (c.drop a.off++nc) (B4.2 ⟨uJ,inc⟩)
  have only:∀r' s' b'' d'',¬r'=a.block->I.at_ r' s'=some (b'',d'')->b''≠b':=fun r' s' b'' d'' hne e'' hbe=>by
   subst hbe
   rcases hb' with hb'|rfl
   ·have:=k.size _ _ _ _ e'';omega
   ·exact hne (k.inj _ _ _ _ _ _ _ e'' hat hbs)
  refine⟨⟨fun r' row' e' d'=>?_,fun r' d'=>?_,fun r' s' b'' d'' e'=>?_,?_,?_,?_,k.Jq (AQ i1.1)⟩,?_,?_⟩
  ·simp only[H.put]at e'
   split at e'
   ·rename_i hrr
    simp at e';subst hrr;subst e'
    refine⟨ir,by simp[hcut],?_,?_,?_,?_⟩
    ·intro m hm
     rcases List.mem_cons.1 hm with rfl|hm
     ·simp[hcut]
     ·simp only[List.mem_map]at hm
      obtain⟨_,_,rfl⟩:=hm
      omega
    ·intro g' p' e'
     by_cases hgg:g'=g+1
     ·simp;omega
     ·rw[Al.Ay (by simp[hgg])]at e'
      have:=hgen _ _ e';simp;omega
    ·intro g1 g2 b1 d1 d2 v1 v2 x1 x2
     have k1:g1=g+1:=by
      by_cases hgg:g1=g+1
      ·exact hgg
      ·rw[Al.Ay (by simp[hgg])]at x1
       have:=hgen _ _ x1;omega
     have k2:g2=g+1:=by
      by_cases hgg:g2=g+1
      ·exact hgg
      ·rw[Al.Ay (by simp[hgg])]at x2
       have:=hgen _ _ x2;omega
     subst k1 k2
     rw[x1]at x2;simp at x2;exact x2
    ·intro g' hv' hl'
     simp only[List.length_cons,List.length_map]at hl'
     obtain rfl:g'=g+1:=by omega
     have hgt:Ea ((len*ie.size+nc.length)::lens.map fun _=>0) (g+1)=len*ie.size+nc.length:=by
      rw[<-hlast,show lens.length=(lens.map fun _=>0).length by simp,Ek]
     refine⟨b',_,D,Al.Ax ..,hbs,hD,?_,by rw[Hg];exact hDs,?_⟩
     ·rw[hgt,hDs,hnl,<-Nat.add_mul]
      exact Nat.add_le_add_left (Nat.mul_le_mul_right _ hfit) _
     ·intro i hi
      rw[hgt]at hi
      rw[er];exact hcl' i hi
   ·rename_i hrr
    have d2:I.dom r':=(Al.BI d').resolve_right hrr
    refine(k.rows r' row' e' d2).le hle' (fun s' p e''=>by rwa [Al.Ay (fun h=>hrr h.1)]at e'') (fun b'' d5=>?_)
    obtain⟨s',d3,hb3⟩:=d5
    exact hkeep _ (k.size _ _ _ _ hb3) (only _ _ _ _ hrr hb3)
  ·rcases Al.BI d' with d2|d2
   ·exact k.lt r' d2
   ·subst d2;exact k.lt _ (AQ i1.1)
  ·by_cases hrs:r'=a.block/\s'=some (g+1)
   ·obtain⟨rfl,rfl⟩:=hrs
    rw[Al.Ax]at e'
    simp at e';rw[<-e'.1];exact hblt
   ·rw[Al.Ay hrs]at e';have:=k.size _ _ _ _ e';omega
  ·have:=k.base;simp[Al.plus];omega
  ·refine k.tabs.same fun b'' SA=>?_
   have SA:b''<I.base:=SA
   have:=k.base
   exact hkeep b'' (by omega) (by omega)
  ·intro r1 r2 s1 s2 b'' d1 d2 VO e2' SA
   have SA:I.base<=b'':=SA
   by_cases h1:r1=a.block/\s1=some (g+1)
   ·by_cases h2:r2=a.block/\s2=some (g+1)
    ·rw[h1.1,h2.1]
    ·rw[Al.Ay h2]at e2'
     obtain⟨rfl,rfl⟩:=h1
     rw[Al.Ax]at VO
     simp at VO
     by_cases hr2:r2=a.block
     ·exact hr2.symm
     ·exact absurd VO.1.symm (only _ _ _ _ hr2 e2')
   ·rw[Al.Ay h1]at VO
    by_cases h2:r2=a.block/\s2=some (g+1)
    ·obtain⟨rfl,rfl⟩:=h2
     rw[Al.Ax]at e2'
     simp at e2'
     by_cases hr1:r1=a.block
     ·exact hr1
     ·exact absurd e2'.1.symm (only _ _ _ _ hr1 VO)
    ·rw[Al.Ay h2]at e2'
     exact k.inj _ _ _ _ _ _ _ VO e2' SA
  ·rw[B8 ML]
   simp only[Jt,C6,Al.Ax,Hg]
   exact⟨⟨_,rfl⟩,by simpa using hfit⟩
  ·rw[BD ML]
   simp only[Cx,Al.Ax,Bq,Hg]
   simp
 by_cases hfit:len+n<=I.cap a.block g - cap / 2
 ·-- there is room: in place
  obtain⟨c1,inc,hl1⟩:=CO (P:=P) (w:=w) (fun a len cap row hy' hf hg=>k.rows _ _ hg (AQ (by rw[hy']at i2;rw[B8 hf]at i2;exact i2.1))) i2 hnc
  have hnl:=hl1 hyl
  have hroom:d+(c.length+nc.length)<=C.size:=by
   have:=Nat.mul_le_mul_right ie.size hfit
   rw[Nat.add_mul]at this
   omega
  have hrl:(Ah I nc).length=nc.length:=by simp
  have hrun:=run_storeCells_at (P:=P) b (d+c.length) e (Ah I nc) 0 C w hheap (by rw[hrl];omega) (IC hone)
  simp only[Nat.add_zero,hrl]at hrun
  generalize hD:(C.toList.take (d+c.length)++Ah I nc++C.toList.drop (d+c.length+nc.length)).toArray=D at hrun
  have Xl:D.size=C.size:=by
   rw[<-hD];simp;omega
  have VI:∀i,i<len*ie.size+nc.length->D[d+a.off+i]? =(Ah I (c.drop a.off++nc))[i]? :=by
   intro i hi
   rw[<-hD,BM,hrd]
   simp only[List.getElem?_toArray,List.append_assoc,List.getElem?_append,List.getElem?_take,List.length_take,Array.length_toList,Array.getElem?_toList,Bp,List.length_drop,List.getElem?_drop]
   rw[show min (d+c.length) C.size=d+c.length by omega]
   by_cases hj:i<len*ie.size
   ·rw[if_pos (by omega),if_pos (by omega),if_pos (by omega),show d+a.off+i=d+(a.off+i) by omega,hcell (a.off+i) (by omega)]
   ·rw[if_neg (by omega),if_pos (by omega),if_neg (by omega),show d+a.off+i - (d+c.length)=i - (c.length - a.off) by omega]
  have B2:But b w (w.setRow b D):=But.setRow _ _ _
  obtain⟨m1,m2,m3⟩:=main _ b (d+a.off) (I.cap a.block g - cap / 2) D (w.setRow b D) rfl (.inr rfl) hbase (IU D hheap) (by rw[Xl,cJ,hmul];omega) hfit VI inc hnl (by rw[B2.size];exact Nat.le_refl _) (by rw[B2.size];exact k.size _ _ _ _ hat) (fun b'' _ hne=>B2.block b'' hne)
  refine⟨_,w.setRow b D,_,⟨BA.plus hfresh (.inr ⟨_,_,hat⟩),fun _ d=>.inl ((Al.BI d).elim id (fun e=>e▸⟨_,_,hat⟩)),Al.Er hlo⟩,m1,m2,B2.ext hlo hat hbase,?_,.inl rfl⟩
  rw[Cr ho,e1,e2,Fh ht hu hd hsz (CW hn w) hfit c1]
  have hadd:(⟨b,d+a.off,none⟩:Addr).add (len*ie.size)=⟨b,d+c.length,none⟩:=by
   unfold Addr.add
   split
   ·rename_i hz0;rw[show d+c.length=d+a.off by omega]
   ·rw[show d+a.off+len*ie.size=d+c.length by omega]
  simp only[hadd,hrun,Result.andThen_ok,m3]
 ·-- a new block
  obtain⟨c1,inc,hl1⟩:=CO (P:=P) (w:=w.drew) (fun a len cap row hy' hf hg=>kd.rows _ _ hg (AQ (by rw[hy']at i2;rw[B8 hf]at i2;exact i2.1))) i2 hnc
  have hnl:=hl1 hyl
  have Zv:Ca h ie.size len (.slice (some a) len cap)=some (c.drop a.off):=by
   simp only[Ca]
   rw[if_neg (Nat.not_le.2 hcf)]
   simp only[H.Az,hg,Option.bind_some,Br,hsp]
   rw[if_pos ⟨hval,Ur,by rw[hgl];omega⟩]
   unfold cut
   rw[if_pos (by omega),List.take_of_length_le (by omega)]
  obtain⟨c2, -, -⟩:=CO (P:=P) (w:=w.drew) (fun a' len' cap' row hy' _ hg=>kd.rows _ _ hg (by simp at hy';rw[<-hy'.1];exact AQ i1.1)) (by rw[B8 hcf];exact i1) Zv
  rw[BD hcf,hra,hca]at c2
  obtain⟨Cp,qM,hrun⟩:=Fw (P:=P) (t:=t) (u:=u) (ty:=o.type) ht hu hd hi rfl (fun w=>(BG hz w).1) (CW (I:=I) hn w) (by omega) hsm c2 c1
  generalize C8:Builtin.zeroCells z.cells (Cp - (len+n))=zs at hrun
  have hzs:zs.size=(Cp - (len+n)) *ie.size:=by rw[<-C8,DU,C4];simp[hzl]
  generalize qx:Obj.cells ((⟨Ah I (c.drop a.off)⟩:Array Value)++⟨Ah I nc⟩++zs) e=ob at hrun
  have hold:∀b',b'<w.heap.size->(w.drew.alloc ob).heap[b']? =w.heap[b']? :=fun b' hb'=>heap_alloc_old w.drew ob hb'
  obtain⟨m1,m2,m3⟩:=main _ w.heap.size 0 Cp ((⟨Ah I (c.drop a.off)⟩:Array Value)++⟨Ah I nc⟩++zs) (w.drew.alloc ob) rfl (.inl (Nat.le_refl _)) k.base (by rw[<-qx];exact heap_alloc w.drew _)
   (by
    simp only[Array.size_append,List.size_toArray,Bp,hnl,hcut,hzs,<-Nat.add_mul,Nat.zero_add]
    congr 1;omega) qM (fun i hi=>by
    rw[BM,Nat.zero_add,Array.getElem?_append,if_pos (by simp only[Array.size_append,List.size_toArray,Bp,hcut];exact hi)]
    simp) inc hnl (by simp) (by simp) (fun b'' SA _=>hold b'' SA)
  refine⟨_,w.drew.alloc ob,_,⟨BA.plus hfresh (.inl (Nat.le_refl _)),fun _ d=>.inl ((Al.BI d).elim id (fun e=>e▸AQ i1.1)),Al.Er hlo⟩,m1,m2,⟨rfl,rfl,rfl,by simp,fun b' hb' _=>hold b' hb'⟩,?_,.inl rfl⟩
  rw[Cr ho,e1,e2,hrun,m3]
  simp

theorem bn (hρ:Ev I ts ρ) (ho:o.op= .call ⟨.builtin .append, #[x,y], #[t,u]⟩) (ht:P.underlying t=some (.slice e)) (hu:P.underlying u=some d) (hd:∀k,d≠ .int k) (hi:P.info? e=some ie)
 (hz:DT P e=some z) (vB:ie.size≠0) (hzl:(Aq z).length=ie.size) (hx:AJ x=some x') (hy:AJ y=some y') (k:Rel I h w)
 {a:Addr} {g len cap n:Nat} {row:A9} {nc:List Value} (hs:ev ts x'= .slice (some a) len cap) (hcf:cap<far) (hsp:a.spot=some g) (hg:h.get a.block=some row) (hn:Eh (ev ts y')=some n) (hnc:Ca h ie.size n (ev ts y')=some nc) (hn0:n≠0)
 (ha:K1 lo e ie.size ie.bytes a g len cap n nc h row=some (v,h')):Ie P I ρ o lo Av h' v w:=by
 obtain⟨e1,i1⟩:=hρ x x' hx
 obtain⟨e2,i2⟩:=hρ y y' hy
 rw[hs]at e1 i1
 rw[B8 hcf]at i1
 have hsz:sizeT P e=some ie.size:=by simp[sizeT,hi]
 have hyl:(∀l c',ev ts y'≠ .slice none l c'):=by
  intro l c' hyn
  rw[hyn]at i2 hn
  simp only[In]at i2
  simp[Eh]at hn
  omega
 unfold K1 at ha
 split at ha
 ·rename_i c e' sz' lens valid
  by_cases hc:lo<=a.block/\valid<=g/\g+1=lens.length/\cap=0/\a.off=0/\len*ie.size=c.length/\e=e'/\ie.size=sz'/\small (len+n) ie.bytes/\nc.all Value.oneCell'=true
  rotate_left
  ·rw[if_neg hc]at ha
   split at ha
   ·rename_i hc2
    simp only[Option.some.injEq,Prod.mk.injEq]at ha
    obtain⟨rfl,rfl⟩:=ha
    obtain⟨h1,h2,h3,h4,h5,h6,rfl,rfl,h7,h8⟩:=hc2
    exact Yq hρ ho ht hu hd hi hz hzl hx hy k hs hcf hsp hg hn hnc hn0 h1 h2 h3 h4 h5 h6 h7 h8
   ·cases ha
  rw[if_pos hc]at ha
  simp only[Option.some.injEq,Prod.mk.injEq]at ha
  obtain⟨hlo,hval,hg1,rfl,hoff,hcl,rfl,rfl,hsm,hone⟩:=hc
  obtain⟨rfl,rfl⟩:=ha
  have hrow:=k.rows _ _ hg (AQ i1.1)
  obtain⟨ic,lz,lu,hgen,hof,hmain⟩:=hrow
  obtain⟨p,hp⟩:=i1.1
  rw[hsp]at hp
  have Ur:g<lens.length:=hgen g p hp
  have hgl:Ea lens g=c.length:=by
   unfold Ea
   rw[show lens.length - 1 - g=0 by omega]
   cases lens with
   |nil=>simp at Ur
   |cons q qs=>simp at lz⊢;exact lz
  obtain⟨b,d,C,hat,hbase,hheap,hle,cJ,hcell⟩:=hmain g hval Ur
  have hca:Bq I a 0=I.cap a.block g:=by simp[Bq,hsp]
  have hra:Cx I a=some ⟨b,d,none⟩:=by simp[Cx,hsp,hat,hoff]
  rw[BD hcf,hra,hca]at e1
  have hfresh:I.at_ a.block (some (g+1))=none:=by
   cases hc':I.at_ a.block (some (g+1))with
   |none=>rfl
   |some q=>have:=hgen _ _ hc';omega
  have kd:=k.drew
  have hlast:lens.length=g+1:=by omega
  by_cases hfit:len+n<=I.cap a.block g
  ·-- there is room: in place
   obtain⟨c1,inc,hl1⟩:=CO (P:=P) (w:=w) (fun a len cap row hy' hf hg=>k.rows _ _ hg (AQ (by rw[hy']at i2;rw[B8 hf]at i2;exact i2.1))) i2 hnc
   have hnl:=hl1 hyl
   have hroom:d+(c.length+nc.length)<=C.size:=by
    rw[cJ,<-hcl,hnl,<-Nat.add_mul]
    exact Nat.add_le_add_left (Nat.mul_le_mul_right _ hfit) _
   have hrl:(Ah I nc).length=nc.length:=by simp
   have hrun:=run_storeCells_at (P:=P) b (d+c.length) e (Ah I nc) 0 C w hheap (by rw[hrl];omega) (IC hone)
   simp only[Nat.add_zero,hrl]at hrun
   generalize hD:(C.toList.take (d+c.length)++Ah I nc++C.toList.drop (d+c.length+nc.length)).toArray=D at hrun
   have Xl:D.size=C.size:=by
    rw[<-hD];simp;omega
   have lG:∀i,i<d+c.length->D[i]? =C[i]? :=by
    intro i hi
    rw[<-hD]
    simp only[List.getElem?_toArray,List.append_assoc,List.getElem?_append,List.getElem?_take,List.length_take,Array.length_toList,Array.getElem?_toList]
    rw[if_pos (by omega),if_pos hi]
   have VI:∀i,i<c.length+nc.length->D[d+i]? =(Ah I (c++nc))[i]? :=by
    intro i hi
    by_cases hic:i<c.length
    ·rw[lG (d+i) (by omega),hcell i (by omega),BM,List.getElem?_append_left (by simpa using hic)]
    ·rw[<-hD,BM]
     simp only[List.getElem?_toArray,List.append_assoc,List.getElem?_append,List.length_take,Array.length_toList,Bp]
     rw[show min (d+c.length) C.size=d+c.length by omega,if_neg (by omega),if_pos (by omega),if_neg hic,show d+i - (d+c.length)=i - c.length by omega]
   have hle':Le I (I.plus a.block (some (g+1)) b (I.cap a.block g) d):=Le.plus hfresh
   have Hg:(I.plus a.block (some (g+1)) b (I.cap a.block g) d).cap a.block (g+1)=I.cap a.block g:=by simp[Al.plus]
   have VG:∀g',g'≠g+1->(I.plus a.block (some (g+1)) b (I.cap a.block g) d).cap a.block g'=I.cap a.block g':=fun g' hne=>by
    simp only[Al.plus];rw[if_neg];rintro⟨-,h⟩;simp at h;omega
   have B2:But b w (w.setRow b D):=But.setRow _ _ _
   obtain⟨er,ir⟩:=hle'.Ah (c++nc) (B4.2 ⟨ic,inc⟩)
   refine⟨I.plus a.block (some (g+1)) b (I.cap a.block g) d,w.setRow b D,_,⟨BA.plus hfresh (.inr ⟨_,_,hat⟩),fun _ d=>.inl ((Al.BI d).elim id (fun e=>e▸⟨_,_,hat⟩)),Al.Er hlo⟩,?_,?_,B2.ext hlo hat hbase,?_,.inl rfl⟩
   ·refine⟨fun r' row' e' d'=>?_,fun r' d'=>?_,fun r' s' b' d' e'=>?_,?_,?_,?_,k.Jq (AQ i1.1)⟩
    ·simp only[H.put]at e'
     split at e'
     ·rename_i hrr
      simp at e';subst hrr;subst e'
      refine⟨ir,by simp,?_,?_,?_,?_⟩
      ·intro m hm
       rcases List.mem_cons.1 hm with rfl|hm
       ·simp
       ·have:=lu m hm;simp;omega
      ·intro g' p' e'
       by_cases hgg:g'=g+1
       ·simp;omega
       ·rw[Al.Ay (by simp[hgg])]at e'
        have:=hgen _ _ e';simp;omega
      ·intro g1 g2 b1 d1 d2 v1 v2 x1 x2
       by_cases k1:g1=g+1
       ·by_cases k2:g2=g+1
        ·subst k1;subst k2;rw[x1]at x2;simp at x2;exact x2
        ·subst k1
         rw[Al.Ax]at x1
         rw[Al.Ay (by simp[k2])]at x2
         simp at x1;obtain⟨rfl,rfl⟩:=x1
         exact hof _ _ _ _ _ hval v2 hat x2
       ·rw[Al.Ay (by simp[k1])]at x1
        by_cases k2:g2=g+1
        ·subst k2
         rw[Al.Ax]at x2
         simp at x2;obtain⟨rfl,rfl⟩:=x2
         exact(hof _ _ _ _ _ hval v1 hat x1).symm
        ·rw[Al.Ay (by simp[k2])]at x2
         exact hof _ _ _ _ _ v1 v2 x1 x2
      ·intro g' hv' hl'
       simp only[List.length_cons]at hl'
       by_cases hgg:g'=g+1
       ·subst hgg
        refine⟨b,d,D,Al.Ax ..,hbase,IU D hheap,?_,by rw[Hg,Xl];exact cJ,?_⟩
        ·rw[<-hlast,Ek,Xl];exact hroom
        ·intro i hi
         rw[<-hlast,Ek]at hi
         rw[er];exact VI i hi
       ·have hlt:g'<lens.length:=by omega
        obtain⟨b2,d2,C2,f1,f2,f3,f4,f5,f6⟩:=hmain g' hv' hlt
        have hgc:Ea lens g'<=c.length:=VJ lu g'
        by_cases hbb:b2=b
        ·subst hbb
         rw[hheap]at f3
         simp at f3;subst f3
         obtain rfl:=hof _ _ _ _ _ hval hv' hat f1
         refine⟨b2,d,D,by rw[Al.Ay (by simp[hgg])];exact f1,hbase,IU D hheap,by rw[Dm hlt,Xl];exact f4,by rw[VG g' hgg,Xl];exact f5,?_⟩
         intro i hi
         rw[Dm hlt]at hi
         rw[er];exact VI i (by omega)
        ·refine⟨b2,d2,C2,by rw[Al.Ay (by simp[hgg])];exact f1,f2,by rw[B2.block _ hbb];exact f3,by rw[Dm hlt];exact f4,by rw[VG g' hgg];exact f5,?_⟩
         intro i hi
         rw[Dm hlt]at hi
         rw[er,f6 i hi,BM,List.getElem?_append_left (by simp;omega)]
     ·rename_i hrr
      have d2:I.dom r':=by
       rcases Al.BI d' with d2|d2
       ·exact d2
       ·exact absurd d2 hrr
      refine(k.rows r' row' e' d2).le hle' (fun s' p e''=>by rwa [Al.Ay (fun h=>hrr h.1)]at e'') (fun b' d5=>B2.block b' (fun hbb=>?_))
      obtain⟨s',d3,hb'⟩:=d5
      subst hbb
      exact hrr (k.inj _ _ _ _ _ _ _ hb' hat hbase)
    ·rcases Al.BI d' with d2|d2
     ·exact k.lt r' d2
     ·subst d2;exact k.lt _ (AQ i1.1)
    ·rw[B2.size]
     by_cases hrs:r'=a.block/\s'=some (g+1)
     ·obtain⟨rfl,rfl⟩:=hrs
      rw[Al.Ax]at e'
      simp at e';rw[<-e'.1];exact k.size _ _ _ _ hat
     ·rw[Al.Ay hrs]at e';exact k.size _ _ _ _ e'
    ·rw[B2.size];exact k.base
    ·exact k.tabs.same fun b' hb'=>B2.block b' (by omega)
    ·have old:∀r' s' b' d',(I.plus a.block (some (g+1)) b (I.cap a.block g) d).at_ r' s'=some (b',d')->∃s'',I.at_ r' s''=some (b',d'):=by
      intro r' s' b' d' e'
      by_cases hrs:r'=a.block/\s'=some (g+1)
      ·obtain⟨rfl,rfl⟩:=hrs
       rw[Al.Ax]at e'
       simp at e';obtain⟨rfl,rfl⟩:=e'
       exact⟨_,hat⟩
      ·rw[Al.Ay hrs]at e';exact⟨_,e'⟩
     intro r1 r2 s1 s2 b' d1 d2 VO e2' hb'
     obtain⟨_,f1⟩:=old _ _ _ _ VO
     obtain⟨_,f2⟩:=old _ _ _ _ e2'
     exact k.inj _ _ _ _ _ _ _ f1 f2 hb'
   ·rw[B8 hcf]
    simp only[Jt,C6,Al.Ax,Hg]
    exact⟨⟨_,rfl⟩,by simpa using hfit⟩
   ·rw[Cr ho,e1,e2,Fh ht hu hd hsz (CW hn w) hfit c1]
    have hadd:(⟨b,d,none⟩:Addr).add (len*ie.size)=⟨b,d+c.length,none⟩:=by
     rw[hcl]
     unfold Addr.add
     split
     ·simp_all
     ·simp
    rw[BD hcf]
    simp only[hadd,hrun,Result.andThen_ok,Cx,Al.Ax,Bq,Hg]
    simp
  ·-- a new block
   obtain⟨c1,inc,hl1⟩:=CO (P:=P) (w:=w.drew) (fun a len cap row hy' hf hg=>kd.rows _ _ hg (AQ (by rw[hy']at i2;rw[B8 hf]at i2;exact i2.1))) i2 hnc
   have hnl:=hl1 hyl
   have Zv:Ca h ie.size len (.slice (some a) len 0)=some c:=by
    simp only[Ca]
    rw[if_neg (Nat.not_le.2 hcf)]
    simp only[H.Az,hg,Option.bind_some,Br,hsp]
    rw[if_pos ⟨hval,Ur,by rw[hoff,hgl];omega⟩,hoff,hcl]
    simp[cut]
   obtain⟨c2, -, -⟩:=CO (P:=P) (w:=w.drew) (fun a' len' cap' row hy' _ hg=>kd.rows _ _ hg (by simp at hy';rw[<-hy'.1];exact AQ i1.1)) (by rw[B8 hcf];exact i1) Zv
   rw[BD hcf,hra,hca]at c2
   obtain⟨Cp,qM,hrun⟩:=Fw (P:=P) (t:=t) (u:=u) (ty:=o.type) ht hu hd hi rfl (fun w=>(BG hz w).1) (CW (I:=I) hn w) (by omega) hsm c2 c1
   have hle':Le I (I.plus a.block (some (g+1)) w.heap.size Cp):=Le.plus hfresh
   have Hg:(I.plus a.block (some (g+1)) w.heap.size Cp).cap a.block (g+1)=Cp:=by simp[Al.plus]
   have VG:∀g',g'≠g+1->(I.plus a.block (some (g+1)) w.heap.size Cp).cap a.block g'=I.cap a.block g':=fun g' hne=>by
    simp only[Al.plus];rw[if_neg];rintro⟨-,h⟩;simp at h;omega
   obtain⟨er,ir⟩:=hle'.Ah (c++nc) (B4.2 ⟨ic,inc⟩)
   generalize C8:Builtin.zeroCells z.cells (Cp - (len+n))=zs at hrun
   have hzs:zs.size=(Cp - (len+n)) *ie.size:=by rw[<-C8,DU,C4];simp[hzl]
   generalize qx:Obj.cells ((⟨Ah I c⟩:Array Value)++⟨Ah I nc⟩++zs) e=ob at hrun
   have hold:∀b',b'<w.heap.size->(w.drew.alloc ob).heap[b']? =w.heap[b']? :=fun b' hb'=>heap_alloc_old w.drew ob hb'
   refine⟨I.plus a.block (some (g+1)) w.heap.size Cp,w.drew.alloc ob,_,⟨BA.plus hfresh (.inl (Nat.le_refl _)),fun _ d=>.inl ((Al.BI d).elim id (fun e=>e▸AQ i1.1)),Al.Er hlo⟩,?_,?_,⟨rfl,rfl,rfl,by simp,fun b' hb' _=>hold b' hb'⟩,?_,.inl rfl⟩
   ·refine⟨fun r' row' e' d'=>?_,fun r' d'=>?_,fun r' s' b' d' e'=>?_,?_,?_,?_,k.Jq (AQ i1.1)⟩
    ·simp only[H.put]at e'
     split at e'
     ·rename_i hrr
      simp at e';subst hrr;subst e'
      refine⟨ir,by simp,?_,?_,?_,?_⟩
      ·intro m hm
       rcases List.mem_cons.1 hm with rfl|hm
       ·simp
       ·have:=lu m hm;simp;omega
      ·intro g' p' e'
       by_cases hgg:g'=g+1
       ·simp;omega
       ·rw[Al.Ay (by simp[hgg])]at e'
        have:=hgen _ _ e';simp;omega
      ·intro g1 g2 b1 d1 d2 v1 v2 x1 x2
       by_cases k1:g1=g+1
       ·by_cases k2:g2=g+1
        ·subst k1;subst k2;rw[x1]at x2;simp at x2;exact x2
        ·subst k1
         rw[Al.Ax]at x1
         rw[Al.Ay (by simp[k2])]at x2
         simp at x1;obtain⟨rfl,rfl⟩:=x1
         have:=k.size _ _ _ _ x2;omega
       ·rw[Al.Ay (by simp[k1])]at x1
        by_cases k2:g2=g+1
        ·subst k2
         rw[Al.Ax]at x2
         simp at x2;obtain⟨rfl,rfl⟩:=x2
         have:=k.size _ _ _ _ x1;omega
        ·rw[Al.Ay (by simp[k2])]at x2
         exact hof _ _ _ _ _ v1 v2 x1 x2
      ·intro g' hv' hl'
       simp only[List.length_cons]at hl'
       by_cases hgg:g'=g+1
       ·subst hgg
        refine⟨w.heap.size,0,(⟨Ah I c⟩:Array Value)++⟨Ah I nc⟩++zs,Al.Ax ..,k.base,by rw[<-qx];exact heap_alloc w.drew _,?_,?_,?_⟩
        ·rw[<-hlast,Ek];simp
        ·rw[Hg,Nat.zero_add]
         simp only[Array.size_append,List.size_toArray,Bp,hnl,<-hcl,hzs,<-Nat.add_mul]
         congr 1;omega
        ·intro i hi
         rw[<-hlast,Ek]at hi
         rw[er,BM,Nat.zero_add,Array.getElem?_append,if_pos (by simpa using hi)]
         simp
       ·have hlt:g'<lens.length:=by omega
        obtain⟨b2,d2,C2,f1,f2,f3,f4,f5,f6⟩:=hmain g' hv' hlt
        have hgc:Ea lens g'<=c.length:=VJ lu g'
        refine⟨b2,d2,C2,by rw[Al.Ay (by simp[hgg])];exact f1,f2,by rw[hold _ (k.size _ _ _ _ f1)];exact f3,by rw[Dm hlt];exact f4,by rw[VG g' hgg];exact f5,?_⟩
        intro i hi
        rw[Dm hlt]at hi
        rw[er,f6 i hi,BM,List.getElem?_append_left (by simp;omega)]
     ·rename_i hrr
      have d2:I.dom r':=by
       rcases Al.BI d' with d2|d2
       ·exact d2
       ·exact absurd d2 hrr
      refine(k.rows r' row' e' d2).le hle' (fun s' p e''=>by rwa [Al.Ay (fun h=>hrr h.1)]at e'') (fun b' d5=>?_)
      obtain⟨s',d3,hb'⟩:=d5
      exact hold _ (k.size _ _ _ _ hb')
    ·rcases Al.BI d' with d2|d2
     ·exact k.lt r' d2
     ·subst d2;exact k.lt _ (AQ i1.1)
    ·by_cases hrs:r'=a.block/\s'=some (g+1)
     ·obtain⟨rfl,rfl⟩:=hrs
      rw[Al.Ax]at e'
      simp at e';simp[<-e'.1]
     ·rw[Al.Ay hrs]at e';have:=k.size _ _ _ _ e';simp;omega
    ·have:=k.base;simp[Al.plus];omega
    ·have:=k.base;exact k.tabs.same fun b' hb'=>hold b' (by omega)
    ·intro r1 r2 s1 s2 b' d1 d2 VO e2' hb'
     by_cases h1:r1=a.block/\s1=some (g+1)
     ·by_cases h2:r2=a.block/\s2=some (g+1)
      ·rw[h1.1,h2.1]
      ·rw[Al.Ay h2]at e2'
       obtain⟨rfl,rfl⟩:=h1
       rw[Al.Ax]at VO
       have:=k.size _ _ _ _ e2'
       simp at VO;omega
     ·rw[Al.Ay h1]at VO
      by_cases h2:r2=a.block/\s2=some (g+1)
      ·obtain⟨rfl,rfl⟩:=h2
       rw[Al.Ax]at e2'
       have:=k.size _ _ _ _ VO
       simp at e2';omega
      ·rw[Al.Ay h2]at e2'
       exact k.inj _ _ _ _ _ _ _ VO e2' hb'
   ·rw[B8 hcf]
    simp only[Jt,C6,Al.Ax,Hg]
    exact⟨⟨_,rfl⟩,by simpa using qM⟩
   ·rw[Cr ho,e1,e2,hrun,BD hcf]
    simp only[Result.andThen_ok,Cx,Al.Ax,Bq,Hg]
    simp
 ·simp at ha


theorem TK (hρ:Ev I ts ρ) (ho:o.op= .call ⟨.builtin .append, #[x,y], #[t,u]⟩) (ht:P.underlying t=some (.slice e)) (hu:P.underlying u=some d) (hd:∀k,d≠ .int k) (hi:P.info? e=some ie)
 (hz:DT P e=some z) (h0:ie.size≠0) (hzl:(Aq z).length=ie.size) (hx:AJ x=some x') (hy:AJ y=some y') (k:Rel I h w) (Gl:¬I.dom Av) (hnx:Av<h.next) (hlo:lo<=Av)
 (ha:Dc lo Av e ie.size ie.bytes (ev ts x') (ev ts y') h=some (v,h')):Ie P I ρ o lo Av h' v w:=by
 obtain⟨e1,i1⟩:=hρ x x' hx
 obtain⟨e2,i2⟩:=hρ y y' hy
 have hsz:sizeT P e=some ie.size:=by simp[sizeT,hi]
 unfold Dc at ha
 simp only[Option.bind_eq_some_iff]at ha
 obtain⟨n,hn,ha⟩:=ha
 split at ha
 ·rename_i hn0
  subst hn0
  split at ha<;>simp at ha
  rename_i a len cap hs
  obtain⟨rfl,rfl⟩:=ha
  rw[hs]at e1 i1
  have hrun:=H7 (P:=P) (I:=I) (sz:=ie.size) hn w
  refine⟨I,w,_,⟨BA.refl I w,fun _ d=>.inl d,fun _ _ _ _ e=>e⟩,k,by rw[hs];exact i1,Ext.refl I lo w,?_,.inl rfl⟩
  cases a with
  | none=>
    simp only[In]at i1
    obtain⟨rfl,rfl⟩:=i1
    simp only[ren]at e1
    rw[Cr ho,e1,e2,Fh ht hu hd hsz (CW hn w) (by omega) hrun,hs]
    simp[ren]
  | some a=>
    rcases Nat.lt_or_ge cap far with hcf|hcf
    ·rw[B8 hcf]at i1
     obtain⟨b,hb⟩:=CK i1.1
     rw[BD hcf,hb]at e1
     rw[Cr ho,e1,e2,Fh ht hu hd hsz (CW hn w) (by have:=NP i1.2;omega) hrun,hs]
     simp[storeCells,BD hcf,hb]
    ·rw[I8 hcf]at i1
     obtain⟨i1, -⟩:=i1
     rw[CR hcf]at e1
     rw[Cr ho,e1,e2,Fh ht hu hd hsz (CW hn w) (by omega) hrun,hs]
     simp[storeCells,CR hcf]
 ·rename_i hn0
  simp only[Option.bind_eq_some_iff]at ha
  obtain⟨nc,hnc,ha⟩:=ha
  split at ha
  ·rename_i a len cap hs
   split at ha
   ·split at ha<;>try simp at ha
    rename_i hcc
    obtain⟨hc,hl0,hsm⟩:=hcc
    subst hc hl0
    simp only[CS,Option.some.injEq,Prod.mk.injEq]at ha
    obtain⟨rfl,rfl⟩:=ha
    rw[hs]at e1
    rw[CR (Nat.le_refl _),Hj,Hh]at e1
    have kd:=k.drew
    have hyl:(∀l c',ev ts y'≠ .slice none l c'):=by
     intro l c' hyn
     rw[hyn]at i2 hn
     simp only[In]at i2
     simp[Eh]at hn
     omega
    obtain⟨c1,inc,hl1⟩:=CO (P:=P) (w:=w.drew) (fun a len cap row hy' hf hg=>kd.rows _ _ hg (AQ (by rw[hy']at i2;rw[B8 hf]at i2;exact i2.1))) i2 hnc
    obtain⟨C,hC,hrun⟩:=Fw (P:=P) (t:=t) (u:=u) (ty:=o.type) (sLen:=0) (sCap:=0) (base:=some a) (old:= #[]) ht hu hd hi rfl (fun w=>(BG hz w).1) (CW (I:=I) hn w) (by omega) (by rw[Nat.zero_add];exact hsm) (by simp[Builtin.firstCells,loadCells,loadCellsFrom]) c1
    rw[Nat.zero_add]at hC hrun
    obtain⟨r1,r2,r3,r4,r5⟩:=k.CS (e:=e) Gl hnx inc (hl1 hyl) hC (Builtin.zeroCells z.cells (C - n)) (by rw[DU,C4];simp[hzl])
    refine⟨_,_,_,⟨r2,fun _ d=>Al.BI d,Al.Er hlo⟩,r1,r5,r3.mono hlo,?_,.inl rfl⟩
    rw[Cr ho,e1,e2,hrun,r4]
    simp
   rename_i hcf
   have hcf:=Nat.not_le.1 hcf
   unfold HQ at ha
   split at ha
   ·rename_i hsp
    exact OV hρ ho ht hu hd hi hz h0 hzl hx hy k Gl hnx hlo hs hcf (by simp[Bq,hsp]) (fun m hm=>by simp[C6,hsp];exact hm) hn hnc hn0 ha
   ·rename_i g hsp
    split at ha
    ·rename_i hodd
     exact OV hρ ho ht hu hd hi hz h0 hzl hx hy k Gl hnx hlo hs hcf (by simp[Bq,hsp,hodd]) (fun m hm=>by simp[C6,hsp,hodd];exact hm) hn hnc hn0 ha
    ·simp only[Option.bind_eq_some_iff]at ha
     obtain⟨row,hg,ha⟩:=ha
     exact bn hρ ho ht hu hd hi hz h0 hzl hx hy k hs hcf hsp hg hn hnc hn0 ha
  ·rename_i hs
   split at ha
   ·rename_i hsm
    simp only[CS,Option.some.injEq,Prod.mk.injEq]at ha
    obtain⟨rfl,rfl⟩:=ha
    rw[hs]at e1
    simp only[ren]at e1
    have kd:=k.drew
    have hyl:(∀l c',ev ts y'≠ .slice none l c'):=by
     intro l c' hyn
     rw[hyn]at i2 hn
     simp only[In]at i2
     simp[Eh]at hn
     omega
    obtain⟨c1,inc,hl1⟩:=CO (P:=P) (w:=w.drew) (fun a len cap row hy' hf hg=>kd.rows _ _ hg (AQ (by rw[hy']at i2;rw[B8 hf]at i2;exact i2.1))) i2 hnc
    obtain⟨C,hC,hrun⟩:=Fw (P:=P) (t:=t) (u:=u) (ty:=o.type) (sLen:=0) (sCap:=0) (base:=none) (old:= #[]) ht hu hd hi rfl (fun w=>(BG hz w).1) (CW (I:=I) hn w) (by omega) (by rw[Nat.zero_add];exact hsm) (by simp[Builtin.firstCells]) c1
    rw[Nat.zero_add]at hC hrun
    obtain⟨r1,r2,r3,r4,r5⟩:=k.CS (e:=e) Gl hnx inc (hl1 hyl) hC (Builtin.zeroCells z.cells (C - n)) (by rw[DU,C4];simp[hzl])
    refine⟨_,_,_,⟨r2,fun _ d=>Al.BI d,Al.Er hlo⟩,r1,r5,r3.mono hlo,?_,.inl rfl⟩
    rw[Cr ho,e1,e2,hrun,r4]
    simp
   ·simp at ha
  ·simp at ha

theorem Yr (hρ:Ev I ts ρ) {sz:Nat}(ho:o.op= .call ⟨.builtin .copy, #[x,y], #[t,u]⟩) (ht:P.underlying t=some (.slice e)) (hs:sizeT P e=some sz) (hx:AJ x=some x') (hy:AJ y=some y') (k:Rel I h w)
 (ha:LZ lo sz (ev ts x') (ev ts y') h=some (v,h')):Ie P I ρ o lo Av h' v w:=by
 obtain⟨e1,i1⟩:=hρ x x' hx
 obtain⟨e2,i2⟩:=hρ y y' hy
 have D5:(execOp ρ o).run P w=((Builtin.copy_ #[t,u] o.type #[ρ x,ρ y]).run P w).andThen fun a w'=>.ok (.value a) w':=by
  simp[execOp,ho,resolve,invoke,builtin]
 unfold LZ at ha
 split at ha
 ·rename_i base len cap hsx
  rw[hsx]at e1 i1
  split at ha
  ·simp at ha
  rename_i hcf
  have hcf:=Nat.not_le.1 hcf
  simp only[Option.bind_eq_some_iff]at ha
  obtain⟨m,hm,nc,hnc,ha⟩:=ha
  obtain⟨c1,inc,hl1⟩:=CO (P:=P) (w:=w) (fun a len cap row hy' hf hg=>k.rows _ _ hg (AQ (by rw[hy']at i2;rw[B8 hf]at i2;exact i2.1))) i2 hnc
  have hmin:Nat.min m len=if m<=len then m else len:=by
   show min m len=_
   rw[Nat.min_def]
  generalize (if m<=len then m else len)=nn at*
  have hlen:=CW (P:=P) (I:=I) hm w
  split at ha
  ·rename_i a
   rw[B8 hcf]at i1
   obtain⟨b,hb⟩:=CK i1.1
   rw[BD hcf,hb]at e1
   simp only[Option.map_eq_some_iff,Prod.mk.injEq]at ha
   obtain⟨h'',hst,rfl,rfl⟩:=ha
   split at hst
   ·rename_i hn0
    simp at hst;subst hst
    refine⟨I,w,_,⟨BA.refl I w,fun _ d=>.inl d,fun _ _ _ _ e=>e⟩,k,by simp[In],Ext.refl I lo w,?_,.inl rfl⟩
    rw[hn0]at c1 hnc
    have qz:Ah I nc=[]:=by
     have h00:=H7 (P:=P) (I:=I) (sz:=sz) hm w
     rw[h00]at c1
     injection c1 with c1 _
     exact(congrArg Array.toList c1).symm
    rw[D5,e1,e2]
    simp[Builtin.copy_,run_underlying ht,Bu hs,hlen,hmin,hn0,c1,qz,storeCells,goInt,ren]
   ·rename_i hn0
    cases hg:h.get a.block with
    | none=>
      unfold H.Df at hst
      rw[hg]at hst
      split at hst<;>simp at hst
    | some row=>
      obtain⟨Zw,b',row',w',hb',rfl,hrun,hrow,B2,hbase,hat⟩:=Gq (P:=P) hg (k.rows _ _ hg (AQ i1.1)) i1.1 inc hst
      rw[hb]at hb';simp at hb';subst hb'
      obtain⟨s0,d0,hs0⟩:=hat
      refine⟨I,w',_,⟨BA.refl I w,fun _ d=>.inl d,fun _ _ _ _ e=>e⟩,k.store hbase ⟨s0,_,hs0⟩ B2 hrow,by simp[In],B2.ext Zw hs0 hbase,?_,.inl rfl⟩
      rw[D5,e1,e2]
      simp[Builtin.copy_,run_underlying ht,Bu hs,hlen,hmin,c1,hrun,goInt,ren]
  ·simp at ha
   obtain⟨rfl,rfl⟩:=ha
   simp only[ren]at e1
   refine⟨I,w,_,⟨BA.refl I w,fun _ d=>.inl d,fun _ _ _ _ e=>e⟩,k,by simp[In],Ext.refl I lo w,?_,.inl rfl⟩
   rw[D5,e1,e2]
   simp[Builtin.copy_,run_underlying ht,Bu hs,hlen,hmin,c1,goInt,ren]
 ·simp at ha

theorem MQ (z:List Value) (n:Nat):(Builtin.zeroCells ⟨z⟩ n).toList=Gk z n:=by
 show((Array.range (n*z.length)).map fun i=>(⟨z⟩:Array Value)[i%(⟨z⟩:Array Value).size]!).toList=_
 rw[Qj z n _ rfl]

theorem bq (hρ:Ev I ts ρ) {z:Value}(ho:o.op= .call ⟨.builtin .clear, #[x], #[t]⟩) (ht:P.underlying t=some (.slice e)) (hz:DT P e=some z) (hx:AJ x=some x') (k:Rel I h w)
 (ha:Tv lo (Aq z) (ev ts x') h=some (v,h')):Ie P I ρ o lo Av h' v w:=by
 obtain⟨e1,i1⟩:=hρ x x' hx
 have D5:(execOp ρ o).run P w=((Builtin.clear_ #[t] o.type #[ρ x]).run P w).andThen fun a w'=>.ok (.value a) w':=by
  simp[execOp,ho,resolve,invoke,builtin]
 have VD:=(BG hz w).2
 unfold Tv at ha
 split at ha
 ·rename_i a n cap hsx
  rw[hsx]at e1 i1
  split at ha
  ·rename_i h0
   simp only[Option.some.injEq,Prod.mk.injEq]at ha
   obtain⟨rfl,rfl⟩:=ha
   refine⟨I,w,_,⟨BA.refl I w,fun _ d=>.inl d,fun _ _ _ _ e=>e⟩,k,by simp[In,BH],Ext.refl I lo w,?_,.inl rfl⟩
   subst h0
   rw[D5,e1]
   rcases Nat.lt_or_ge cap far with hcf|hcf
   ·rw[BD hcf]
    cases Cx I a<;>simp[Builtin.clear_,run_underlying ht,ren,Ah]
   ·rw[CR hcf]
    simp[Builtin.clear_,run_underlying ht,ren,Ah]
  ·rename_i h0
   split at ha
   ·simp at ha
   ·rename_i hcf
    have hcf:=Nat.not_le.1 hcf
    simp only[Option.map_eq_some_iff,Prod.mk.injEq]at ha
    obtain⟨h'',hst,rfl,rfl⟩:=ha
    rw[B8 hcf]at i1
    obtain⟨b,hb⟩:=CK i1.1
    rw[BD hcf,hb]at e1
    cases hg:h.get a.block with
    | none=>
      unfold H.Df at hst
      rw[hg]at hst
      split at hst<;>simp at hst
    | some row=>
      have k9:B7 (Aq z)=true:=by
       cases z<;>simp_all[Aq,B7,flat]
      obtain⟨er,inc⟩:=CN I _ (Jh k9 n)
      obtain⟨Zw,b',row',w',hb',rfl,hrun,hrow,B2,hbase,hat⟩:=Gq (P:=P) hg (k.rows _ _ hg (AQ i1.1)) i1.1 inc hst
      rw[hb]at hb';simp at hb';subst hb'
      obtain⟨s0,d0,hs0⟩:=hat
      refine⟨I,w',_,⟨BA.refl I w,fun _ d=>.inl d,fun _ _ _ _ e=>e⟩,k.store hbase ⟨s0,_,hs0⟩ B2 hrow,by simp[In,BH],B2.ext Zw hs0 hbase,?_,.inl rfl⟩
      rw[D5,e1]
      rw[er]at hrun
      have C8:(Builtin.zeroCells z.cells n).toList=Gk (Aq z) n:=by rw[C4,MQ]
      simp[Builtin.clear_,run_underlying ht,(BG hz _).1,C8,hrun,ren,Ah,h0]
 ·rename_i hsx
  rw[hsx]at e1 i1
  simp only[Option.some.injEq,Prod.mk.injEq]at ha
  obtain⟨rfl,rfl⟩:=ha
  simp only[ren]at e1
  refine⟨I,w,_,⟨BA.refl I w,fun _ d=>.inl d,fun _ _ _ _ e=>e⟩,k,by simp[In,BH],Ext.refl I lo w,?_,.inl rfl⟩
  rw[D5,e1]
  simp[Builtin.clear_,run_underlying ht,ren,Ah]
 ·simp at ha

end sims
end
end AE

/- Maps. -/
namespace AE
open Go Go.RowKit

section
variable {P:Program}{I:Al}{ts:Ts}{ρ:Operand->Value}

theorem JC {α β:Type}(P:Program) (f:α->Sem β):∀x:Sem α,Au P (x.bind f)=(Au P x).bind fun a=>Au P (f a)
 |.pure a=>rfl
 |.program k=>by simp only[Sem.bind,Au];exact JC P f (k P)
 |.load _ _ _=>rfl
 |.store _ _ _ _=>rfl
 |.new _ _=>rfl
 |.shape _ _=>rfl
 |.freeze _ _ _=>rfl
 |.frozen _ _=>rfl
 |.getObj _ _=>rfl
 |.setObj _ _ _=>rfl
 |.choose _ _=>rfl
 |.sys _ _=>rfl
 |.mark _ _=>rfl
 |.halt _=>rfl
theorem AL {α β:Type}(P:Program) (x:Sem α) (f:α->Sem β):Au P (x >>= f)=(Au P x).bind fun a=>Au P (f a):=JC P f x

def found (g:MapEntry->MapEntry) (es:List MapEntry) (i:Nat):Option (Nat × Value)->Option (Nat × Value)
 |none=>none
 |some (j,_)=>(es[j - i]?).map fun e=>(j,(g e).val)

theorem NY {g:MapEntry->MapEntry}{e:MapEntry}{es:List MapEntry}{i:Nat}{r:Option (Nat × Value)}(h:∀p,r=some p->i+1<=p.1):found g (e::es) i r=found g es (i+1) r:=by
 cases r with
 |none=>rfl
 | some p=>
   have:=h p rfl
   simp only[found]
   rw[show p.1 - i=(p.1 - (i+1))+1 by omega,List.getElem?_cons_succ]

theorem Mg (kd:TypeDesc) (k:Value) (f g:MapEntry->MapEntry) (hk:∀e,(f e).key=(g e).key):∀(es:List MapEntry) (i:Nat),
 (Instr.findNow kd k (es.map f) i=none->Instr.findNow kd k (es.map g) i=none)/\
 ∀r,Instr.findNow kd k (es.map f) i=some r->Instr.findNow kd k (es.map g) i=some (found g es i r)/\(∀p,r=some p->i<=p.1)
 |[],i=>by simp[Instr.findNow,found]
 | e ::es,i=>by
   obtain⟨ih1,ih2⟩:=Mg kd k f g hk es (i+1)
   simp only[List.map_cons,Instr.findNow,hk]
   cases Instr.sameNow kd k (g e).key with
   |none=>simp
   | some b=>
     cases b with
     | true=>
       simp only[reduceCtorEq,false_implies,true_and]
       intro r hr
       simp at hr;subst hr
       simp[found]
     | false=>
       refine⟨ih1,fun r hr=>?_⟩
       obtain⟨h1,h2⟩:=ih2 r hr
       refine⟨by rw[NY h2];exact h1,fun p hp=>by have:=h2 p hp;omega⟩

theorem IW (kt:TypeId) (k:Value) (f g:MapEntry->MapEntry) (hk:∀e,(f e).key=(g e).key) (w:World):∀(es:List MapEntry) (i:Nat) (r:Option (Nat × Value)),
 Au P (Instr.findAsking kt k (es.map f) i)=some r->(Instr.findAsking kt k (es.map g) i).run P w= .ok (found g es i r) w/\(∀p,r=some p->i<=p.1)
 | [],i,r,h=>by
   simp[Instr.findAsking,Au,Pure.pure]at h
   subst h
   simp[Instr.findAsking,found]
 | e ::es,i,r,h=>by
   simp only[List.map_cons,Instr.findAsking,AL,Option.bind_eq_some_iff]at h
   obtain⟨b,hb,h⟩:=h
   rw[hk e]at hb
   have hrun:=DZ P _ _ hb w
   simp only[List.map_cons,Instr.findAsking,Sem.run_bind,hrun,Result.andThen_ok]
   cases b with
   | true=>
     simp[Au,Pure.pure]at h
     subst h
     simp[found]
   | false=>
     obtain⟨h1,h2⟩:=IW kt k f g hk w es (i+1) r (by simpa using h)
     refine⟨?_,fun p hp=>by have:=h2 p hp;omega⟩
     rw[NY h2]
     simpa using h1

theorem SN {kt:TypeId}{k:Value}{f g:MapEntry->MapEntry}(hk:∀e,(f e).key=(g e).key) {es:List MapEntry}{r:Option (Nat × Value)}(h:Au P (Instr.findKey kt k (es.map f))=some r) (w:World):
 (Instr.findKey kt k (es.map g)).run P w= .ok (found g es 0 r) w:=by
 unfold Instr.findKey at*
 simp only[AL,Option.bind_eq_some_iff]at h
 obtain⟨d,hd,h⟩:=h
 have hdr:=DZ P _ _ hd w
 obtain⟨n1,n2⟩:=Mg d k f g hk es 0
 simp only[Sem.run_bind,hdr,Result.andThen_ok]
 cases hf:Instr.findNow d k (es.map f) 0 with
 | none=>
   rw[hf]at h
   rw[n1 hf]
   exact(IW kt k f g hk w es 0 r h).1
 | some r'=>
   rw[hf]at h
   simp[Au,Pure.pure]at h
   subst h
   rw[(n2 r' hf).1]
   simp

theorem Hp {empty:Bool}{kt:TypeId}{k:Value}{es:List MapEntry}{r:Option Nat}(h:E4 P empty kt k es=some r) (w:World):
 flat k=true/\(Instr.checkKey empty 10000 kt k).run P w= .ok () w/\(Instr.findKey kt k (es.map (B0 I))).run P w= .ok (r.bind fun i=>(es[i]?).map fun e=>(i,ren I e.val)) w:=by
 unfold E4 at h
 split at h
 ·rename_i hc
  obtain⟨hk,hes,hch⟩:=hc
  refine⟨hk,?_,?_⟩
  ·obtain⟨u,hu⟩:=Option.isSome_iff_exists.1 hch
   exact DZ P _ _ hu w
  ·simp only[Option.map_eq_some_iff]at h
   obtain⟨q,hq,rfl⟩:=h
   have hmap:es.map (B0 I)=es.map (fun e=>if flat e.key then B0 I e else⟨e.key,undef,e.born⟩):=by
    apply List.map_congr_left
    intro e he
    rw[if_pos (List.all_eq_true.1 hes e he)]
   rw[hmap]
   have:=SN (P:=P) (f:=fun e=>⟨e.key,undef,e.born⟩) (g:=fun e=>if flat e.key then B0 I e else⟨e.key,undef,e.born⟩) (fun e=>by
    by_cases hf:flat e.key=true
    ·simp[hf,B0,(Bi I _ hf).1]
    ·simp[hf]) hq w
   rw[this]
   congr 1
   cases q with
   |none=>rfl
   | some p=>
     simp only[found,Nat.sub_zero,Option.map_some,Option.bind_some]
     cases he:es[p.1]? with
     |none=>rfl
     |some e=>simp[List.all_eq_true.1 hes e (List.mem_of_getElem? he),B0]
 ·simp at h

section sims
variable {o:Oper}{t kt e:TypeId}{m kk vv:Operand}{m' k' v':AP}{z:Value}{lo:Nat}{ok:Bool}{h h':H}{w:World}{v:Value}

theorem TH (hρ:Ev I ts ρ) (ho:o.op= .lookup t m kk ok) (ht:P.underlying t=some (.map kt e)) (hz:DT P e=some z) (hm:AJ m=some m') (hk:AJ kk=some k') (k:Rel I h w)
 (ha:Cs P kt z ok (ev ts k') h (ev ts m')=some v):In I v/\(execOp ρ o).run P w= .ok (.value (ren I v)) w:=by
 obtain⟨e1,i1⟩:=hρ m m' hm
 obtain⟨e2, -⟩:=hρ kk k' hk
 obtain⟨jH,VD⟩:=BG hz w
 obtain⟨ez,iz⟩:=Bi I z VD
 unfold Cs at ha
 split at ha
 ·rename_i r hr
  rw[hr]at e1 i1
  simp only[ren,In]at e1 i1
  split at ha
  ·rename_i es c hg
   simp only[Option.bind_eq_some_iff]at ha
   obtain⟨q,hq,ha⟩:=ha
   obtain⟨b0,hb0⟩:=i1
   obtain⟨ie,b,hat,hbase,hheap⟩:=k.rows _ _ hg ⟨_,_,hb0⟩
   have hblk:I.blk r=b:=by simp[Al.blk,hat]
   rw[hblk]at e1
   obtain⟨cH,hck,K6⟩:=Hp (I:=I) hq w
   rw[(Bi I _ cH).1]at e2
   have hget:(getObj b).run P w= .ok (.map ⟨es.map (B0 I)⟩ c) w:=by simp[getObj,Sem.run,hheap]
   have hemp:(⟨es.map (B0 I)⟩:Array MapEntry).isEmpty=es.isEmpty:=by cases es<;>simp
   cases q with
   | none=>
     simp only[JF,Option.some.injEq]at ha
     subst ha
     simp only[Option.bind_none]at K6
     cases ok
     ·refine⟨by simpa using iz,?_⟩
      simp[execOp,ho,e1,e2,Instr.lookup,run_underlying ht,hget,hemp,hck,K6,jH,ez]
     ·refine⟨by simp[In,BH,iz],?_⟩
      simp[execOp,ho,e1,e2,Instr.lookup,run_underlying ht,hget,hemp,hck,K6,jH,ez,ren,Ah]
   | some i=>
     simp only[JF,Option.map_eq_some_iff]at ha
     obtain⟨x,hx,rfl⟩:=ha
     simp only[Option.bind_some,hx,Option.map_some]at K6
     have hix:=(ie x (List.mem_of_getElem? hx)).2
     cases ok
     ·refine⟨by simpa using hix,?_⟩
      simp[execOp,ho,e1,e2,Instr.lookup,run_underlying ht,hget,hemp,hck,K6]
     ·refine⟨by simp[In,BH,hix],?_⟩
      simp[execOp,ho,e1,e2,Instr.lookup,run_underlying ht,hget,hemp,hck,K6,ren,Ah]
  ·simp at ha
 ·rename_i hr
  rw[hr]at e1
  simp only[ren]at e1
  simp only[Option.bind_eq_some_iff]at ha
  obtain⟨q,hq,ha⟩:=ha
  obtain⟨cH,hck,K6⟩:=Hp (I:=I) hq w
  rw[(Bi I _ cH).1]at e2
  simp only[List.map_nil]at K6
  cases q with
  | none=>
    simp only[JF,Option.some.injEq]at ha
    subst ha
    simp only[Option.bind_none]at K6
    cases ok
    ·refine⟨by simpa using iz,?_⟩
     simp[execOp,ho,e1,e2,Instr.lookup,run_underlying ht,hck,K6,jH,ez]
    ·refine⟨by simp[In,BH,iz],?_⟩
     simp[execOp,ho,e1,e2,Instr.lookup,run_underlying ht,hck,K6,jH,ez,ren,Ah]
  |some i=>simp[JF]at ha
 ·simp at ha

end sims
end
end AE

/- Maps: a store, a delete, the length. -/
namespace AE
open Go Go.RowKit

section
variable {P:Program}{I:Al}{ts:Ts}{ρ:Operand->Value}

def putObj (w:World) (b:Nat) (o:Obj):World:={w with heap:=w.heap.setIfInBounds b o}

theorem C7 {w:World}{b:Nat}{es:Array MapEntry}{c:Nat}(h:w.heap[b]? =some (.map es c)):(getObj b).run P w= .ok (.map es c) w:=by simp[getObj,Sem.run,h]
theorem DW {w:World}{b:Nat}{es:Array MapEntry}{c:Nat}(h:w.heap[b]? =some (.map es c)) (o:Obj):(setObj b o).run P w= .ok () (putObj w b o):=by simp[setObj,Sem.run,h,putObj]
theorem But.putObj (w:World) (b:Nat) (o:Obj):But b w (putObj w b o):=by
 refine⟨rfl,rfl,rfl,by simp[AE.putObj],fun k hk=>?_⟩
 simp only[AE.putObj]
 rw[Array.getElem?_setIfInBounds_ne (fun e=>hk e.symm)]
theorem TU {w:World}{b:Nat}{es:Array MapEntry}{c:Nat}(h:w.heap[b]? =some (.map es c)) (o:Obj):(putObj w b o).heap[b]? =some o:=by
 obtain⟨hb, -⟩:=Array.getElem?_eq_some_iff.1 h
 simp[putObj,Array.getElem?_setIfInBounds,hb]

theorem IK {es:List MapEntry}{i:Nat}{x:MapEntry}{k v:Value}(hx:es[i]? =some x):
 (⟨es.map (B0 I)⟩:Array MapEntry).modify i (fun e=>{e with key:=ren I k,val:=ren I v})=⟨(es.set i ⟨k,v,x.born⟩).map (B0 I)⟩:=by
 apply Array.ext'
 rw[Array.toList_modify]
 apply List.ext_getElem?
 intro j
 simp only[List.getElem?_modify,List.getElem?_map,List.getElem?_set]
 by_cases hij:i=j
 ·subst hij
  obtain⟨hl,he⟩:=List.getElem?_eq_some_iff.1 hx
  subst he
  simp[hl,B0]
 ·simp[hij]

theorem map_eraseIdx {α β:Type}(f:α->β):∀(l:List α) (i:Nat),(l.map f).eraseIdx i=(l.eraseIdx i).map f
 |[],_=>rfl
 |a::l,0=>rfl
 |a::l,i+1=>by simp only[List.map_cons,List.eraseIdx_cons_succ,map_eraseIdx f l i]

variable {o:Oper}{t kt e u:TypeId}{m kk vv x y:Operand}{m' k' v' x' y':AP}{lo Av:Nat}{h h':H}{w:World}{v:Value}

theorem Ie.mapped {r b c c':Nat}{es es':List MapEntry}{nx:Next}(k:Rel I h w) (hlo:lo<=r) (hat:I.at_ r none=some (b,0)) (hbase:I.base<=b) (hh:w.heap[b]? =some (.map ⟨es.map (B0 I)⟩ c))
 (hes:∀e∈es',eN I e) (hv:In I v) (hrun:(execOp ρ o).run P w= .ok nx (putObj w b (.map ⟨es'.map (B0 I)⟩ c'))) (hnx:nx= .value (ren I v)\/(nx= .skip/\v=undef)):Ie P I ρ o lo Av (h.put r (.map es' c')) v w:=by
 have B2:=But.putObj w b (.map ⟨es'.map (B0 I)⟩ c')
 exact⟨I,_,_,⟨BA.refl I w,fun _ d=>.inl d,fun _ _ _ _ e=>e⟩,k.store hbase ⟨_,_,hat⟩ B2 ⟨hes,b,hat,hbase,TU hh _⟩,hv,B2.ext hlo hat hbase,hrun,hnx⟩

theorem TI (hρ:Ev I ts ρ) (ho:o.op= .call ⟨.builtin .len, #[x], #[t]⟩) (ht:P.underlying t=some (.map kt e)) (hx:AJ x=some x') (k:Rel I h w)
 (ha:Kc h (ev ts x')=some v):In I v/\(execOp ρ o).run P w= .ok (.value (ren I v)) w:=by
 obtain⟨e1,i1⟩:=hρ x x' hx
 unfold Kc at ha
 split at ha
 ·rename_i r hr
  rw[hr]at e1 i1
  simp only[ren,In]at e1 i1
  split at ha
  ·rename_i es c hg
   simp at ha;subst ha
   obtain⟨b0,hb0⟩:=i1
   obtain⟨ie,b,hat,hbase,hheap⟩:=k.rows _ _ hg ⟨_,_,hb0⟩
   have hblk:I.blk r=b:=by simp[Al.blk,hat]
   rw[hblk]at e1
   refine⟨by simp[In],?_⟩
   simp[execOp,ho,resolve,invoke,builtin,Builtin.len_,e1,run_underlying ht,C7 hheap,goInt,ren]
  ·simp at ha
 ·rename_i hr
  rw[hr]at e1
  simp only[ren]at e1
  simp at ha;subst ha
  refine⟨by simp[In],?_⟩
  simp[execOp,ho,resolve,invoke,builtin,Builtin.len_,e1,run_underlying ht,goInt,ren]
 ·simp at ha

theorem OU (hρ:Ev I ts ρ) (ho:o.op= .mapUpdate t m kk vv\/o.op= .insert t m kk vv) (ht:P.underlying t=some (.map kt e)) (hm:AJ m=some m') (hk:AJ kk=some k') (hv:AJ vv=some v') (k:Rel I h w)
 (ha:Lb P lo kt (ev ts k') (ev ts v') h (ev ts m')=some h'):Ie P I ρ o lo Av h' undef w:=by
 obtain⟨e1,i1⟩:=hρ m m' hm
 obtain⟨e2,i2⟩:=hρ kk k' hk
 obtain⟨e3,i3⟩:=hρ vv v' hv
 unfold Lb at ha
 split at ha
 ·rename_i r hr
  rw[hr]at e1 i1
  simp only[ren,In]at e1 i1
  split at ha
  ·rename_i hlo
   split at ha
   ·rename_i es c hg
    simp only[Option.bind_eq_some_iff]at ha
    obtain⟨q,hq,ha⟩:=ha
    obtain⟨b0,hb0⟩:=i1
    obtain⟨ie,b,hat,hbase,hheap⟩:=k.rows _ _ hg ⟨_,_,hb0⟩
    have hblk:I.blk r=b:=by simp[Al.blk,hat]
    rw[hblk]at e1
    obtain⟨cH,hck,K6⟩:=Hp (I:=I) hq w
    have VE:=(Bi I _ cH).1
    have D5:(execOp ρ o).run P w=((Instr.mapUpdate t (ρ m) (ρ kk) (ρ vv)).run P w).andThen fun _ w'=>.ok .skip w':=by
     rcases ho with ho|ho<;>simp[execOp,ho]
    cases q with
    | none=>
      simp only[Kz,Option.some.injEq]at ha
      subst ha
      simp only[Option.bind_none]at K6
      refine Ie.mapped (es:=es) k hlo hat hbase hheap (fun e he=>?_) (by simp[undef,In,BH]) (nx:=.skip) ?_ (.inr ⟨rfl,rfl⟩)
      ·rcases List.mem_append.1 he with he|he
       ·exact ie e he
       ·simp at he;subst he;exact⟨i2,i3⟩
      ·rw[D5,e1,e2,e3,VE]
       simp[Instr.mapUpdate,run_underlying ht,C7 hheap,hck,K6,DW hheap,B0,VE]
    | some i=>
      simp only[Kz,Option.bind_eq_some_iff]at ha
      obtain⟨x,hx,ha⟩:=ha
      split at ha
      ·rename_i Sz
       simp at ha;subst ha
       simp only[Option.bind_some,hx,Option.map_some]at K6
       have hxm:=List.mem_of_getElem? hx
       have hxk:ren I x.key=x.key:=by
        unfold E4 at hq
        split at hq
        ·rename_i hc;exact(Bi I _ (List.all_eq_true.1 hc.2.1 x hxm)).1
        ·simp at hq
       refine Ie.mapped (es:=es) k hlo hat hbase hheap (fun e he=>?_) (by simp[undef,In,BH]) (nx:=.skip) ?_ (.inr ⟨rfl,rfl⟩)
       ·rcases List.mem_or_eq_of_mem_set he with he|he
        ·exact ie e he
        ·subst he;exact⟨i2,i3⟩
       ·rw[D5,e1,e2,e3,<-IK hx,VE]
        simp[Instr.mapUpdate,run_underlying ht,C7 hheap,hck,K6,DW hheap,hx,B0,hxk,Instr.keyThatStays,Sz]
      ·simp at ha
   ·simp at ha
  ·simp at ha
 ·simp at ha

theorem TJ (hρ:Ev I ts ρ) (ho:o.op= .call ⟨.builtin .delete, #[x,y], #[t,u]⟩) (ht:P.underlying t=some (.map kt e)) (hx:AJ x=some x') (hy:AJ y=some y') (k:Rel I h w)
 (ha:Hu P lo kt (ev ts y') h (ev ts x')=some h'):Ie P I ρ o lo Av h' (.tuple #[]) w:=by
 obtain⟨e1,i1⟩:=hρ x x' hx
 obtain⟨e2,i2⟩:=hρ y y' hy
 unfold Hu at ha
 split at ha
 ·rename_i r hr
  rw[hr]at e1 i1
  simp only[ren,In]at e1 i1
  split at ha
  ·rename_i hlo
   split at ha
   ·rename_i es c hg
    simp only[Option.map_eq_some_iff]at ha
    obtain⟨q,hq,ha⟩:=ha
    obtain⟨b0,hb0⟩:=i1
    obtain⟨ie,b,hat,hbase,hheap⟩:=k.rows _ _ hg ⟨_,_,hb0⟩
    have hblk:I.blk r=b:=by simp[Al.blk,hat]
    rw[hblk]at e1
    obtain⟨cH,hck,K6⟩:=Hp (I:=I) hq w
    have VE:=(Bi I _ cH).1
    have hemp:(⟨es.map (B0 I)⟩:Array MapEntry).isEmpty=es.isEmpty:=by cases es<;>simp
    have D5:(execOp ρ o).run P w=((Builtin.delete_ #[t,u] o.type #[ρ x,ρ y]).run P w).andThen fun a w'=>.ok (.value a) w':=by
     simp[execOp,ho,resolve,invoke,builtin]
    have hsame:putObj w b (.map ⟨es.map (B0 I)⟩ c)=w:=by
     cases w with
     | mk=>
       simp only[putObj]at hheap⊢
       congr 1
       apply Array.ext_getElem?
       intro j
       by_cases hj:b=j
       ·subst hj
        obtain⟨hl, -⟩:=Array.getElem?_eq_some_iff.1 hheap
        rw[hheap,Array.getElem?_setIfInBounds_self_of_lt hl]
       ·rw[Array.getElem?_setIfInBounds_ne hj]
    cases q with
    | none=>
      simp only at ha;subst ha
      simp only[Option.bind_none]at K6
      refine⟨I,w,_,⟨BA.refl I w,fun _ d=>.inl d,fun _ _ _ _ e=>e⟩,k,by simp[In,BH],Ext.refl I lo w,?_,.inl rfl⟩
      rw[D5,e1,e2,VE]
      simp[Builtin.delete_,run_underlying ht,C7 hheap,hemp,hck,K6,DW hheap,hsame,ren,Ah]
    | some i=>
      simp only at ha;subst ha
      cases nO:es[i]? with
      | none=>
        simp only[Option.bind_some,nO,Option.map_none]at K6
        have her:es.eraseIdx i=es:=List.eraseIdx_of_length_le (List.getElem?_eq_none_iff.1 nO)
        rw[her]
        refine Ie.mapped (es:=es) k hlo hat hbase hheap ie (by simp[In,BH]) (nx:=.value (ren I (.tuple #[]))) ?_ (.inl rfl)
        rw[D5,e1,e2,VE]
        simp[Builtin.delete_,run_underlying ht,C7 hheap,hemp,hck,K6,DW hheap,ren,Ah]
      |some x=>
      simp only[Option.bind_some,nO,Option.map_some]at K6
      obtain⟨hl, -⟩:=List.getElem?_eq_some_iff.1 nO
      refine Ie.mapped (es:=es) k hlo hat hbase hheap (fun e he=>ie e (List.mem_of_mem_eraseIdx he)) (by simp[In,BH]) (nx:=.value (ren I (.tuple #[]))) ?_ (.inl rfl)
      rw[D5,e1,e2,VE]
      have her:(⟨es.map (B0 I)⟩:Array MapEntry).eraseIdxIfInBounds i=⟨(es.eraseIdx i).map (B0 I)⟩:=by
       apply Array.ext'
       rw[Array.toList_eraseIdxIfInBounds,map_eraseIdx]
      simp[Builtin.delete_,run_underlying ht,C7 hheap,hemp,hck,K6,DW hheap,map_eraseIdx,ren,Ah]
   ·simp at ha
  ·simp at ha
 ·simp at ha

end
end AE

/- Maps: a range over one begins, an entry is read, an entry is laid and stored. -/
namespace AE
open Go Go.RowKit

section
variable {P:Program}{I:Al}{ts:Ts}{ρ:Operand->Value}
variable {o:Oper}{t kt e u:TypeId}{m kk vv x y:Operand}{m' k' v' x' y' s':AP}{lo Av:Nat}{h h':H}{w:World}{v:Value}

theorem ZI (es:List MapEntry) (s:Nat):(es.map (B0 I)).find? (fun e=>e.born==s)=(es.find? (fun e=>e.born==s)).map (B0 I):=by
 induction es with
 |nil=>rfl
 | cons a l ih=>
   simp only[List.map_cons,List.find?_cons]
   have:(B0 I a).born=a.born:=rfl
   rw[this]
   cases a.born==s<;>simp[ih]

theorem TF (hρ:Ev I ts ρ) (ho:o.op= .range t x) (ht:P.underlying t=some (.map kt e)) (hx:AJ x=some x') (k:Rel I h w) (Gl:¬I.dom Av) (hnx:Av<h.next) (hlo:lo<=Av)
 (ha:Ht Av h (ev ts x')=some (v,h')):Ie P I ρ o lo Av h' v w:=by
 obtain⟨e1,i1⟩:=hρ x x' hx
 unfold Ht at ha
 split at ha
 ·rename_i r hr
  rw[hr]at e1 i1
  simp only[ren,In]at e1 i1
  split at ha
  ·rename_i es c hg
   simp only[Option.some.injEq,Prod.mk.injEq]at ha
   obtain⟨rfl,rfl⟩:=ha
   obtain⟨b0,hb0⟩:=i1
   obtain⟨ie,b,hat,hbase,hheap⟩:=k.rows _ _ hg ⟨_,_,hb0⟩
   have hblk:I.blk r=b:=by simp[Al.blk,hat]
   rw[hblk]at e1
   have hrun:=run_range_map (P:=P) w t kt e b _ c ht hheap
   have hne:r≠Av:=by rintro rfl;exact Gl ⟨_,_,hb0⟩
   refine⟨_,_,_,⟨BA.plus (Dh Gl none) (.inl (Nat.le_refl _)) (c:=0),fun _ d=>Al.BI d,Al.Er hlo⟩,k.new Gl hnx none 0 _ ⟨w.heap.size,b,Al.Ax ..,k.base,?_,heap_alloc w _⟩,?_,Ext.alloc I lo w _,?_,.inl rfl⟩
   ·rw[Al.Ay (fun q=>hne q.1)];exact hat
   ·simp only[In,Jt];exact⟨_,Al.Ax ..⟩
   ·simp only[execOp,ho,e1,Sem.run_bind,hrun,Result.andThen,ren,Cx,Al.Ax]
    rfl
  ·simp at ha
 ·simp at ha

theorem WB (hρ:Ev I ts ρ) (ho:o.op= .entry x) (hx:AJ x=some x') (k:Rel I h w) (ha:MW h (ev ts x')=some v):In I v/\(execOp ρ o).run P w= .ok (.value (ren I v)) w:=by
 obtain⟨e1,i1⟩:=hρ x x' hx
 unfold MW at ha
 split at ha
 ·rename_i r hr
  rw[hr]at e1 i1
  simp only[Option.bind_eq_some_iff]at ha
  obtain⟨row,hg,ha⟩:=ha
  unfold VN at ha
  split at ha
  ·rename_i m since seen c0
   simp only[Option.bind_eq_some_iff]at ha
   obtain⟨s,hs,ha⟩:=ha
   split at ha
   ·rename_i es c hgm
    split at ha
    ·rename_i hcc
     subst hcc
     simp only[VL,Option.map_eq_some_iff]at ha
     obtain⟨en,hen,rfl⟩:=ha
     simp only[In,Jt]at i1
     obtain⟨p0,hp0⟩:=i1
     obtain⟨b,bm,hat,hbase,Xk,hheap⟩:=k.rows _ _ hg ⟨_,_,hp0⟩
     obtain⟨ie,vu,NV,gP,Uq⟩:=k.rows _ _ hgm ⟨_,_,Xk⟩
     rw[Xk]at NV;simp at NV;subst NV
     have hmem:=List.mem_of_find?_eq_some hen
     have hin:=ie en hmem
     have hf:(⟨es.map (B0 I)⟩:Array MapEntry).find? (fun e=>e.born==s)=some (B0 I en):=by
      rw[<-Array.find?_toList]
      show(es.map (B0 I)).find? _=_
      rw[ZI,hen];rfl
     have hback:(⟨seen⟩:Array Nat).back? =some s:=by
      rw[Array.back?_eq_getElem?,<-hs,List.getLast?_eq_getElem?]
      simp
     refine⟨by simp[In,BH,hin.1,hin.2],?_⟩
     simp only[ren,Cx,hat]at e1
     simp only[execOp,ho,e1,Instr.entry,getObj,Sem.run_bind,Sem.run,hheap,Uq,Result.andThen,hback,bne_self_eq_false,Bool.false_eq_true,if_false,hf]
     simp[ren,Ah,B0]
    ·simp at ha
   ·simp at ha
  ·simp at ha
 ·simp at ha

mutual
theorem Uy:∀{a b:Value},d8 a b=true->a=b
 | .int k a,.int k' b,h=>by
   simp only[d8,decide_eq_true_eq]at h
   obtain⟨rfl,rfl⟩:=h
   rfl
 | .bool a,.bool b,h=>by
   simp only[d8,decide_eq_true_eq]at h
   rw[h]
 | .string a,.string b,h=>by
   simp only[d8,Bool.and_eq_true,decide_eq_true_eq]at h
   rw[h.1]
 | .agg ⟨a⟩,.agg ⟨b⟩,h=>by
   simp only[d8]at h
   rw[ZM h]
theorem ZM:∀{a b:List Value},nR a b=true->a=b
 |[],[],_=>rfl
 | a::l,b::m,h=>by
   simp only[nR,Bool.and_eq_true]at h
   rw[Uy h.1,ZM h.2]
end

theorem RI {P:Program}{I:Al}{w:World}{F:Value->ByteArray->Sem (ForInStep ByteArray)}(hF:∀n r,F (.int .u8 n) r=pure (.yield (r.push (UInt8.ofNat n.toNat)))):∀{l:List Value} {s t:ByteArray},Ws l s=some t->(forIn (Ah I l) s F).run P w= .ok t w
 |[],s,t,h=>by simp[Ws]at h;subst h;simp[Ah]
 | v::l,s,t,h=>by
   unfold Ws at h
   split at h
   ·rename_i e;cases e
   ·rename_i n l' e
    simp only[List.cons.injEq]at e
    obtain⟨rfl,rfl⟩:=e
    have:=RI (P:=P) (I:=I) (w:=w) hF h
    simp only[Ah,ren,List.forIn_cons,hF,pure_bind]
    exact this
   ·cases h
theorem bu {t u:TypeId}(hρ:Ev I ts ρ) (ho:o.op= .convert t u x) (ht:P.underlying t=some (.slice e)) (hu:P.underlying u=some .string) (he:P.underlying e=some (.int .u8)) (hx:AJ x=some x')
 (k:∀a len cap row,ev ts x'= .slice (some a) len cap->cap<far->h.get a.block=some row->Bw I a.block w row) (ha:XZ h (ev ts x')=some v):In I v/\(execOp ρ o).run P w= .ok (.value (ren I v)) w:=by
 obtain⟨e1,i1⟩:=hρ x x' hx
 unfold XZ at ha
 split at ha
 ·rename_i a n c hr
  simp only[Option.bind_eq_some_iff,Option.map_eq_some_iff]at ha
  obtain⟨l,hl,b,hb,rfl⟩:=ha
  rw[hr]at e1 i1 k
  obtain⟨hc, -, -⟩:=CO (P:=P) k i1 hl
  refine⟨by simp[In],?_⟩
  cases a with
  | none=>
    simp only[Ca,Option.some.injEq]at hl
    subst hl
    simp[Ws]at hb
    subst hb
    simp[execOp,ho,e1,convert,run_underlying ht,run_underlying hu,run_underlying he,Conv.bytesToString,ren]
  | some a=>
    have hsl:∃b c',ren I (.slice (some a) n c)= .slice (some b) n c':=by
     by_cases hf:far<=c
     ·exact⟨_,_,CR hf⟩
     ·have hf:=Nat.not_le.1 hf
      rw[B8 hf]at i1
      obtain⟨p,hp⟩:=i1.1
      exact⟨⟨p.1,p.2+a.off,none⟩,Bq I a c,by rw[BD hf];simp only[Cx,hp]⟩
    obtain⟨b',c',hsl⟩:=hsl
    rw[hsl]at e1 hc
    simp only[Builtin.firstCells,Nat.mul_one]at hc
    simp[execOp,ho,e1,convert,run_underlying ht,run_underlying hu,run_underlying he,Conv.bytesToString,hc,ren]
    rw[RI (fun n r=>rfl) hb]
    rfl
 ·simp at ha

theorem TD (hρ:Ev I ts ρ) (ho:o.op= .range t x) (ht:P.underlying t=some .string) (hx:AJ x=some x') (k:Rel I h w) (Gl:¬I.dom Av) (hnx:Av<h.next) (hlo:lo<=Av)
 (ha:Mx Av h (ev ts x')=some (v,h')):Ie P I ρ o lo Av h' v w:=by
 obtain⟨e1,i1⟩:=hρ x x' hx
 unfold Mx at ha
 split at ha
 ·rename_i s hr
  rw[hr]at e1
  simp only[ren]at e1
  simp only[Option.some.injEq,Prod.mk.injEq]at ha
  obtain⟨rfl,rfl⟩:=ha
  refine⟨_,_,_,⟨BA.plus (Dh Gl none) (.inl (Nat.le_refl _)) (c:=0),fun _ d=>Al.BI d,Al.Er hlo⟩,k.new Gl hnx none 0 (.stringIter s 0) ⟨w.heap.size,Al.Ax ..,k.base,heap_alloc w _⟩,?_,Ext.alloc I lo w _,?_,.inl rfl⟩
  ·simp only[In,Jt];exact⟨_,Al.Ax ..⟩
  ·simp[execOp,ho,e1,Instr.range,run_underlying ht,newObj,Sem.run,ren,Cx,Al.Ax]
 ·simp at ha

theorem Wz (hρ:Ev I ts ρ) (ho:o.op= .next x true) (hx:AJ x=some x') (k:Rel I h w)
 (ha:La lo h (ev ts x')=some (v,h')):Ie P I ρ o lo Av h' v w:=by
 obtain⟨e1,i1⟩:=hρ x x' hx
 unfold La at ha
 split at ha
 ·rename_i r hr
  rw[hr]at e1 i1
  simp only[ren,In,Jt]at e1 i1
  split at ha
  ·rename_i hlo
   split at ha
   ·rename_i s pos hg
    obtain⟨b0,hb0⟩:=i1
    obtain⟨b,hat,hbase,hheap⟩:=k.rows _ _ hg ⟨_,_,hb0⟩
    have e2:ρ x= .pointer (some ⟨b,0,none⟩):=by rw[e1];simp[Cx,hat]
    have hget:(getObj b).run P w= .ok (.stringIter s pos) w:=by simp[getObj,Sem.run,hheap]
    have hset:∀ob,(setObj b ob).run P w= .ok () (putObj w b ob):=fun ob=>by simp[setObj,Sem.run,hheap,putObj]
    split at ha
    ·rename_i hp
     simp only[Option.some.injEq,Prod.mk.injEq]at ha
     obtain⟨rfl,rfl⟩:=ha
     refine⟨I,_,_,⟨BA.refl I w,fun _ d=>.inl d,fun _ _ _ _ e=>e⟩,k.store hbase ⟨none,_,hat⟩ (But.putObj w b (.stringIter s (pos+(Utf8.decode s pos).2))) ⟨b,hat,hbase,by have hb:=(Array.getElem?_eq_some_iff.1 hheap).1;simp[AE.putObj,Array.getElem?_setIfInBounds,hb]⟩,by simp[In,BH],(But.putObj w b _).ext hlo hat hbase,?_,.inl rfl⟩
     simp[execOp,ho,Instr.next,e2,hget,hp,hset,ren,Ah,goInt]
    ·rename_i hp
     simp only[Option.some.injEq,Prod.mk.injEq]at ha
     obtain⟨rfl,rfl⟩:=ha
     refine⟨I,w,_,⟨BA.refl I w,fun _ d=>.inl d,fun _ _ _ _ e=>e⟩,k,by simp[In,BH],Ext.refl I lo w,?_,.inl rfl⟩
     simp[execOp,ho,Instr.next,e2,hget,hp,ren,Ah]
   ·simp at ha
  ·simp at ha
 ·simp at ha

theorem TG (hρ:Ev I ts ρ) (ho:o.op= .mapEntry t m kk) (ht:P.underlying t=some (.map kt e)) {z:Value}(hz:DT P e=some z) (hm:AJ m=some m') (hk:AJ kk=some k') (k:Rel I h w)
 (ha:Gp P lo kt z (ev ts k') h (ev ts m')=some (v,h')):Ie P I ρ o lo Av h' v w:=by
 obtain⟨e1,i1⟩:=hρ m m' hm
 obtain⟨e2,i2⟩:=hρ kk k' hk
 obtain⟨jH,VD⟩:=BG hz w
 obtain⟨ez,iz⟩:=Bi I z VD
 unfold Gp at ha
 split at ha
 ·rename_i r hr
  rw[hr]at e1 i1
  simp only[ren,In]at e1 i1
  split at ha
  ·rename_i hlo
   split at ha
   ·rename_i es c hg
    simp only[Option.bind_eq_some_iff]at ha
    obtain⟨q,hq,ha⟩:=ha
    obtain⟨b0,hb0⟩:=i1
    obtain⟨ie,b,hat,hbase,hheap⟩:=k.rows _ _ hg ⟨_,_,hb0⟩
    have hblk:I.blk r=b:=by simp[Al.blk,hat]
    rw[hblk]at e1
    obtain⟨cH,hck,K6⟩:=Hp (I:=I) hq w
    have VE:=(Bi I _ cH).1
    have D5:(execOp ρ o).run P w=((Instr.mapEntry t (ρ m) (ρ kk)).run P w).andThen fun a w'=>.ok (.value a) w':=by
     simp[execOp,ho]
    cases q with
    | none=>
      simp only[JE]at ha
      split at ha
      case isFalse=>simp at ha
      simp only[Option.some.injEq,Prod.mk.injEq]at ha
      obtain⟨rfl,rfl⟩:=ha
      simp only[Option.bind_none]at K6
      refine Ie.mapped (es:=es) k hlo hat hbase hheap (fun e he=>?_) (by simp[In,BH,iz]) (nx:=_) ?_ (.inl rfl)
      ·rcases List.mem_append.1 he with he|he
       ·exact ie e he
       ·simp at he;subst he;exact⟨i2,iz⟩
      ·rw[D5,e1,e2,VE]
       simp[Instr.mapEntry,run_underlying ht,C7 hheap,hck,K6,DW hheap,B0,VE,jH,ez,ren,Ah,goInt]
    | some i=>
      simp only[JE,Option.bind_eq_some_iff]at ha
      obtain⟨x,hx,ha⟩:=ha
      split at ha
      ·rename_i Sz
       simp only[Option.some.injEq,Prod.mk.injEq]at ha
       obtain⟨rfl,rfl⟩:=ha
       simp only[Option.bind_some,hx,Option.map_some]at K6
       have hxm:=List.mem_of_getElem? hx
       have hxk:ren I x.key=x.key:=by
        unfold E4 at hq
        split at hq
        ·rename_i hc;exact(Bi I _ (List.all_eq_true.1 hc.2.1 x hxm)).1
        ·simp at hq
       have hix:=ie x hxm
       rw[Bool.and_eq_true]at Sz
       have hkey:=Uy Sz.1
       refine Ie.mapped (es:=es) k hlo hat hbase hheap ie (by simp[In,BH,hix.2]) (nx:=_) ?_ (.inl rfl)
       have hmod:(⟨es.map (B0 I)⟩:Array MapEntry).modify i (fun e=>{e with key:=ev ts k'})=⟨es.map (B0 I)⟩:=by
        apply Array.ext'
        rw[Array.toList_modify]
        apply List.ext_getElem?
        intro j
        simp only[List.getElem?_modify,List.getElem?_map]
        by_cases hij:i=j
        ·subst hij;simp[hx,B0,<-hkey,hxk]
        ·simp[hij]
       rw[D5,e1,e2,VE]
       simp[Instr.mapEntry,run_underlying ht,C7 hheap,hck,K6,DW hheap,hx,B0,hxk,Instr.keyThatStays,Sz.2,ren,Ah,goInt]
       simpa[B0]using congrArg (fun q=>putObj w b (Obj.map q c)) hmod
      ·simp at ha
   ·simp at ha
  ·simp at ha
 ·simp at ha

theorem WA (hρ:Ev I ts ρ) {s:Operand}(ho:o.op= .entryStore t m s vv) (hm:AJ m=some m') (hs:AJ s=some s') (hv:AJ vv=some v') (k:Rel I h w)
 (ha:Lc lo (ev ts s') (ev ts v') h (ev ts m')=some h'):Ie P I ρ o lo Av h' undef w:=by
 obtain⟨e1,i1⟩:=hρ m m' hm
 obtain⟨e2,i2⟩:=hρ s s' hs
 obtain⟨e3,i3⟩:=hρ vv v' hv
 unfold Lc at ha
 split at ha
 ·rename_i r hr
  rw[hr]at e1 i1
  simp only[ren,In]at e1 i1
  split at ha
  ·rename_i hlo
   split at ha
   ·rename_i es c n hg hsn
    rw[hsn]at e2
    obtain⟨b0,hb0⟩:=i1
    obtain⟨ie,b,hat,hbase,hheap⟩:=k.rows _ _ hg ⟨_,_,hb0⟩
    have hblk:I.blk r=b:=by simp[Al.blk,hat]
    rw[hblk]at e1
    have D5:(execOp ρ o).run P w=((Instr.entryStore t (ρ m) (ρ s) (ρ vv)).run P w).andThen fun _ w'=>.ok .skip w':=by
     simp[execOp,ho]
    have hidx:(⟨es.map (B0 I)⟩:Array MapEntry).findIdx? (fun e=>(e.born:Int)==n)=es.findIdx? (fun e=>(e.born:Int)==n):=by
     rw[List.findIdx?_toArray,List.findIdx?_map]
     rfl
    unfold Pz at ha
    split at ha
    ·rename_i i hi
     simp only[Option.map_eq_some_iff]at ha
     obtain⟨x,hx,rfl⟩:=ha
     have hxm:=List.mem_of_getElem? hx
     refine Ie.mapped (es:=es) k hlo hat hbase hheap (fun e he=>?_) (by simp[undef,In,BH]) (nx:=.skip) ?_ (.inr ⟨rfl,rfl⟩)
     ·rcases List.mem_or_eq_of_mem_set he with he|he
      ·exact ie e he
      ·subst he;exact⟨(ie x hxm).1,i3⟩
     ·have hmod:(⟨es.map (B0 I)⟩:Array MapEntry).modify i (fun e=>{e with val:=ren I (ev ts v')})=⟨(es.set i ⟨x.key,ev ts v',x.born⟩).map (B0 I)⟩:=by
       rw[<-IK hx]
       apply Array.ext'
       rw[Array.toList_modify,Array.toList_modify]
       apply List.ext_getElem?
       intro j
       simp only[List.getElem?_modify,List.getElem?_map]
       by_cases hij:i=j
       ·subst hij;simp[hx,B0]
       ·simp[hij]
      rw[D5,e1,e2,e3]
      simp[ren,Instr.entryStore,C7 hheap,asInt,asIntOf,hidx,hi,DW hheap]
      simpa[B0]using congrArg (fun q=>putObj w b (Obj.map q c)) hmod
    ·simp at ha
   ·simp at ha
  ·simp at ha
 ·simp at ha

end
end AE

/- A look into a map ahead of, or behind, an entry's being laid for the same key: the same. -/
namespace AE
open Go Go.RowKit

section
variable {P:Program}

theorem av (a b:List MapEntry):bare (a++b)=bare a++bare b:=by simp[bare]

theorem Qc {kd:TypeDesc}{k:Value}(hs:P6 k=true):Instr.sameNow kd k k≠some false:=by
 cases k<;>cases kd<;>simp[Instr.sameNow]
 exact hs
theorem Qd {kd:TypeDesc}{k k':Value}{b:Bool}(h:Instr.sameNow kd k k'=some b):Instr.sameNow kd k k≠none:=by
 cases k<;>cases kd<;>simp[Instr.sameNow]at h⊢

theorem Mh (kd:TypeDesc) (k:Value) (e:MapEntry):∀(es:List MapEntry) (i:Nat),
 (Instr.findNow kd k es i=none->Instr.findNow kd k (es++[e]) i=none)/\
 (Instr.findNow kd k es i=some none->Instr.findNow kd k (es++[e]) i=Instr.findNow kd k [e] (i+es.length))
 |[],i=>⟨by simp[Instr.findNow],fun _=>rfl⟩
 | a ::es,i=>by
   obtain⟨h1,h2⟩:=Mh kd k e es (i+1)
   simp only[List.cons_append,Instr.findNow]
   cases Instr.sameNow kd k a.key with
   |none=>simp
   | some b=>
     cases b with
     |true=>simp
     | false=>
       refine⟨h1,fun h=>?_⟩
       rw[h2 h,List.length_cons,show i+1+es.length=i+(es.length+1) by omega]
       simp[Instr.findNow]

theorem IX (kt:TypeId) (k:Value) (e:MapEntry):∀(es:List MapEntry) (i:Nat),Au P (Instr.findAsking kt k es i)=some none->
 Au P (Instr.findAsking kt k (es++[e]) i)=Au P (Instr.findAsking kt k [e] (i+es.length))
 |[],i,_=>rfl
 | a ::es,i,h=>by
   simp only[List.cons_append,Instr.findAsking,AL,Option.bind_eq_some_iff]at h⊢
   obtain⟨b,hb,h⟩:=h
   rw[hb]
   cases b with
   |true=>simp[Au,Pure.pure]at h
   | false=>
     simp only[Option.bind_some,Bool.false_eq_true,if_false]at h⊢
     rw[IX kt k e es (i+1) h,List.length_cons,show i+1+es.length=i+(es.length+1) by omega]
     simp[Instr.findAsking,AL]

theorem SQ {kt:TypeId}{k u:Value}{c:Nat}{es:List MapEntry}(hn:Au P (Instr.findKey kt k es)=some none) (hs:Ll P kt k=true):∃v,Au P (Instr.findKey kt k (es++[⟨k,u,c⟩]))=some (some (es.length,v)):=by
 unfold Ll at hs
 rw[Bool.and_eq_true]at hs
 obtain⟨hs1,hs2⟩:=hs
 have heq:Au P (Op.equal kt k k)=some true:=by
  split at hs2
  ·assumption
  ·simp at hs2
 have lD:∀i,Au P (Instr.findAsking kt k [⟨k,u,c⟩] i)=some (some (i,u)):=fun i=>by
  simp only[Instr.findAsking,AL,heq,Option.bind_some,if_true]
  rfl
 simp only[Instr.findKey,AL,Option.bind_eq_some_iff]at hn⊢
 obtain⟨kd,hkd,hn⟩:=hn
 obtain⟨a1,a2⟩:=Mh kd k ⟨k,u,c⟩ es 0
 cases hf:Instr.findNow kd k es 0 with
 | none=>
   rw[hf]at hn
   refine⟨u,kd,hkd,?_⟩
   rw[a1 hf]
   simp only at hn⊢
   rw[IX kt k _ es 0 hn,lD]
   simp
 | some q=>
   rw[hf]at hn
   simp only[Au,Pure.pure,Option.some.injEq]at hn
   subst hn
   rw[Nat.zero_add]at a2
   cases hsn:Instr.sameNow kd k k with
   | none=>
     cases es with
     | nil=>
       refine⟨u,kd,hkd,?_⟩
       simp only[List.nil_append,Instr.findNow,hsn,lD,List.length_nil]
     | cons e es=>
       exfalso
       simp only[Instr.findNow]at hf
       split at hf
       ·simp at hf
       ·rename_i h1;exact Qd h1 hsn
       ·simp at hf
   | some b=>
     cases b with
     | true=>
       refine⟨u,kd,hkd,?_⟩
       rw[a2 hf]
       simp only[Instr.findNow,hsn]
       rfl
     |false=>exact absurd hsn (Qc hs1)

theorem XL {kt:TypeId}{k v:Value}{c:Nat}{es:List MapEntry}{b:Bool}(hn:E4 P b kt k es=some none) (hf:(Au P (Instr.checkKey false 10000 kt k)).isSome=true) (hs:Ll P kt k=true):
 E4 P false kt k (es++[⟨k,v,c⟩])=some (some es.length):=by
 unfold E4 at hn⊢
 split at hn
 ·rename_i hc
  obtain⟨h1,h2, -⟩:=hc
  simp only[Option.map_eq_some_iff]at hn
  obtain⟨q,hq,hn⟩:=hn
  have:q=none:=by cases q<;>simp at hn⊢
  subst this
  obtain⟨u,hu⟩:=SQ (u:=undef) (c:=c) hq hs
  have hfl:IQ (es++[⟨k,v,c⟩])=true:=by
   unfold IQ at h2⊢
   rw[List.all_append,h2]
   simp[h1]
  rw[if_pos ⟨h1,hfl,hf⟩,av]
  show(Au P (Instr.findKey kt k (bare es++[⟨k,undef,c⟩]))).map _=_
  rw[hu]
  simp[bare]
 ·simp at hn
theorem UT {kt:TypeId}{k:Value}{es:List MapEntry}{b b':Bool}{q q':Option Nat}(h:E4 P b kt k es=some q) (h':E4 P b' kt k es=some q'):q=q':=by
 unfold E4 at h h'
 split at h
 ·split at h'
  ·rw[h]at h';simpa using h'
  ·simp at h'
 ·simp at h

theorem YY {kt:TypeId}{z k v v':Value}{lo r:Nat}{h g:H}{es:List MapEntry}{c:Nat}(hg:h.get r=some (.map es c)) (cG:Cs P kt z false k h (.map (some r))=some v) (hme:Gp P lo kt z k h (.map (some r))=some (v',g)):
 ∃row,g=h.put r row/\∀f:H,f.get r=some row->Cs P kt z false k f (.map (some r))=some v:=by
 simp only[Cs,hg,Option.bind_eq_some_iff]at cG
 obtain⟨q,hq,cG⟩:=cG
 simp only[Gp]at hme
 split at hme
 ·simp only[hg,Option.bind_eq_some_iff]at hme
  obtain⟨q',hq',hme⟩:=hme
  obtain rfl:=UT hq hq'
  cases q with
  | none=>
    simp only[JE]at hme
    split at hme
    ·rename_i hs
     simp only[Option.some.injEq,Prod.mk.injEq]at hme
     refine⟨_,hme.2.symm,fun f hf=>?_⟩
     have hck:(Au P (Instr.checkKey false 10000 kt k)).isSome=true:=by
      unfold E4 at hq'
      split at hq'
      ·rename_i hc;exact hc.2.2
      ·simp at hq'
     have:=XL (v:=z) (c:=c) hq hck hs
     simp only[Cs,hf]
     rw[show(es++[(⟨k,z,c⟩:MapEntry)]).isEmpty=false by simp,this]
     simp only[JF,Bool.false_eq_true,if_false,Option.some.injEq]at cG
     subst cG
     simp[JF]
    ·simp at hme
  | some i=>
    simp only[JE,Option.bind_eq_some_iff]at hme
    obtain⟨x,hx,hme⟩:=hme
    split at hme
    ·simp only[Option.some.injEq,Prod.mk.injEq]at hme
     exact⟨_,hme.2.symm,fun f hf=>by simp only[Cs,hf,hq,Option.bind_some,cG]⟩
    ·simp at hme
 ·simp at hme

end
end AE

/- One operation, whatever it is: what the evaluator says of it is what the program does. -/
namespace AE
open Go Go.RowKit

section
variable {P:Program}{I:Al}{ts:Ts}{ρ:Operand->Value}

def Bn.known:Bn->Bool:=fun _=>true

theorem Ie.Ua {o:Oper}{lo Av:Nat}{h:H}{v:Value}{w:World}(k:Rel I h w) (h1:In I v) (h2:(execOp ρ o).run P w= .ok (.value (ren I v)) w):Ie P I ρ o lo Av h v w:=
 ⟨I,w,_,⟨BA.refl I w,fun _ d=>.inl d,fun _ _ _ _ e=>e⟩,k,h1,Ext.refl I lo w,h2,.inl rfl⟩

theorem Ie.fresh {o:Oper}{lo Av:Nat}{h h':H}{v:Value}{w:World}(k:Rel I h w) (hlo:lo<=Av) (Gl:¬I.dom Av) (hnx:Av<h.next) (hf:Ou P I ρ o Av h h' v):Ie P I ρ o lo Av h' v w:=by
 obtain⟨row,rfl,hf⟩:=hf
 obtain⟨ob,hrun,hin,hrow⟩:=hf w k.base Gl
 exact⟨_,_,_,⟨BA.plus (Dh Gl _) (.inl (Nat.le_refl _)),fun _ d=>Al.BI d,Al.Er hlo⟩,k.new Gl hnx none 0 ob hrow,hin,Ext.alloc I lo w ob,hrun,.inl rfl⟩

theorem Ie.stored {o:Oper}{lo Av b:Nat}{h:H}{r:Nat}{row:A9}{w w':World}(k:Rel I h w) (hlo:lo<=r) (hrow:Bw I r w' row) (B2:But b w w') (hbase:I.base<=b) (hat:∃s d,I.at_ r s=some (b,d))
 (hrun:(execOp ρ o).run P w= .ok .skip w'):Ie P I ρ o lo Av (h.put r row) undef w:=by
 obtain⟨s,d0,hs⟩:=hat
 exact⟨I,w',_,⟨BA.refl I w,fun _ d=>.inl d,fun _ _ _ _ e=>e⟩,k.store hbase ⟨s,_,hs⟩ B2 hrow,by simp[undef,In,BH],B2.ext hlo hs hbase,hrun,.inr ⟨rfl,rfl⟩⟩

set_option maxHeartbeats 1600000 in
theorem TE (hρ:Ev I ts ρ) {o:Oper}{ao:Bn}{lo Av:Nat}{h h':H}{v:Value}{w:World}(hc:comp P o=some (.op ao)) (hkn:ao.known=true) (k:Rel I h w) (Gl:¬I.dom Av) (hnx:Av<h.next) (hlo:lo<=Av)
 (ha:BZ P lo Av ts h ao=some (v,h')):Ie P I ρ o lo Av h' v w:=by
 by_cases hl:ao.light=true
 ·by_cases hf:ao.fresh=true
  ·exact Ie.fresh k hlo Gl hnx (XI hρ hc hl hf ha)
  ·obtain⟨rfl,hi,hrun⟩:=XH hρ hc hl (by simpa using hf) ha
   exact Ie.Ua k hi (hrun w)
 ·have hc0:=hc
  have hc:=QY hc (by rintro rfl;simp[BZ]at ha)
  unfold KS at hc
  have Za:∀(x:Operand) (x':AP),AJ x=some x'->∀a row,ev ts x'= .pointer (some a)->h.get a.block=some row->Bw I a.block w row:=fun x x' hx a row hp hg=>by
   have i2:=(hρ x x' hx).2
   rw[hp]at i2
   exact k.rows _ _ hg (AQ (by simpa only[In]using i2))
  cases ho:o.op<;>rw[ho]at hc<;>simp only[Option.bind_eq_some_iff,Option.map_eq_some_iff,reduceCtorEq]at hc
  case load t a=>
   obtain⟨a',hx,hc⟩:=hc
   split at hc
   ·rename_i ht
    simp only[Option.map_eq_some_iff]at hc
    obtain⟨n,hn,hc⟩:=hc
    simp at hc;subst hc
    obtain⟨hv,rfl⟩:=Ar ha
    obtain⟨r1,r2⟩:=OY hρ ho ht hn hx hv (Za a a' hx)
    exact Ie.Ua k r1 r2
   ·rename_i ht
    simp at hc;subst hc
    obtain⟨hv,rfl⟩:=Ar ha
    obtain⟨r1,r2⟩:=OZ hρ ho ht hx hv (Za a a' hx)
    exact Ie.Ua k r1 r2
   ·simp at hc
  case store t a x=>
   obtain⟨n,hn,a',hx,x',hy,hc⟩:=hc
   simp at hc;subst hc
   obtain⟨aa,b,row',w',e1,e2,rfl,rfl,e5,e6,e7,e8,e9⟩:=Qe hρ ho hn hx hy ha (Za a a' hx)
   exact Ie.stored k e2 e5 e6 e7 e8 e9
  case lookup t m kk ok=>
   split at hc
   ·rename_i kt e ht
    simp only[Option.bind_eq_some_iff,Option.map_eq_some_iff]at hc
    obtain⟨z,hz,m',hm,k',hk,hc⟩:=hc
    simp at hc;subst hc
    obtain⟨hv,rfl⟩:=Ar ha
    obtain⟨r1,r2⟩:=TH hρ ho ht hz hm hk k hv
    exact Ie.Ua k r1 r2
   ·simp at hc
  case mapUpdate t m kk vv=>
   split at hc
   ·rename_i kt e ht
    simp only[Option.bind_eq_some_iff,Option.map_eq_some_iff]at hc
    obtain⟨m',hm,k',hk,v',hv,hc⟩:=hc
    simp at hc;subst hc
    simp only[BZ,Option.map_eq_some_iff,Prod.mk.injEq]at ha
    obtain⟨h1,ha,rfl,rfl⟩:=ha
    exact OU hρ (.inl ho) ht hm hk hv k ha
   ·simp at hc
  case insert t m kk vv=>
   split at hc
   ·rename_i kt e ht
    simp only[Option.bind_eq_some_iff,Option.map_eq_some_iff]at hc
    obtain⟨m',hm,k',hk,v',hv,hc⟩:=hc
    simp at hc;subst hc
    simp only[BZ,Option.map_eq_some_iff,Prod.mk.injEq]at ha
    obtain⟨h1,ha,rfl,rfl⟩:=ha
    exact OU hρ (.inr ho) ht hm hk hv k ha
   ·simp at hc
  case convert s d x=>
   obtain⟨x',hx,hc⟩:=hc
   split at hc
   ·simp at hc;subst hc;simp[Bn.light]at hl
   ·rename_i e ht hu
    split at hc
    ·rename_i he
     simp at hc;subst hc
     obtain⟨hv,rfl⟩:=Ar ha
     obtain⟨r1,r2⟩:=bu hρ ho ht hu he hx (fun a len cap row hp hcap hg=>by
      have i2:=(hρ x x' hx).2
      rw[hp,B8 hcap]at i2
      exact k.rows _ _ hg (AQ i2.1)) hv
     exact Ie.Ua k r1 r2
    ·simp at hc
   ·simp at hc;subst hc;simp[Bn.light]at hl
  case range t x=>
   split at hc
   ·rename_i kt e ht
    simp only[Option.map_eq_some_iff]at hc
    obtain⟨x',hx,hc⟩:=hc
    simp at hc;subst hc
    exact TF hρ ho ht hx k Gl hnx hlo ha
   ·rename_i ht
    simp only[Option.map_eq_some_iff]at hc
    obtain⟨x',hx,hc⟩:=hc
    simp at hc;subst hc
    exact TD hρ ho ht hx k Gl hnx hlo ha
   ·simp at hc
  case next x st=>
   split at hc
   ·rename_i hst
    subst hst
    simp only[Option.map_eq_some_iff]at hc
    obtain⟨x',hx,hc⟩:=hc
    simp at hc;subst hc
    exact Wz hρ ho hx k ha
   ·simp at hc
  case entry x=>
   obtain⟨x',hx,hc⟩:=hc
   simp at hc;subst hc
   obtain⟨hv,rfl⟩:=Ar ha
   obtain⟨r1,r2⟩:=WB hρ ho hx k hv
   exact Ie.Ua k r1 r2
  case mapEntry t m kk=>
   split at hc
   ·rename_i kt e ht
    simp only[Option.bind_eq_some_iff,Option.map_eq_some_iff]at hc
    obtain⟨z,hz,m',hm,k',hk,hc⟩:=hc
    simp at hc;subst hc
    exact TG hρ ho ht hz hm hk k ha
   ·simp at hc
  case entryStore t m s vv=>
   obtain⟨m',hm,s',hs,v',hv,hc⟩:=hc
   simp at hc;subst hc
   simp only[BZ,Option.map_eq_some_iff,Prod.mk.injEq]at ha
   obtain⟨h1,ha,rfl,rfl⟩:=ha
   exact WA hρ ho hm hs hv k ha
  case call c=>
   unfold Oc at hc
   split at hc
   ·rename_i f uR
    simp only[Option.bind_eq_some_iff,Option.map_eq_some_iff]at hc
    obtain⟨_,_,_,_,hc⟩:=hc
    simp at hc
   ·split at hc
    ·simp only[Option.map_eq_some_iff]at hc
     obtain⟨_,_,hc⟩:=hc
     simp at hc
    ·simp at hc
   ·rename_i b hb
    split at hc
    ·rename_i x t hx ht
     simp only[Option.bind_eq_some_iff]at hc
     obtain⟨x',hx',hc⟩:=hc
     split at hc
     case h_3=>
      rename_i htu
      simp at hc;subst hc
      have hcc:=Z0 hb hx ht
      subst hcc
      obtain⟨hv,rfl⟩:=Ar ha
      obtain⟨r1,r2⟩:=TI hρ ho htu hx' k hv
      exact Ie.Ua k r1 r2
     case h_5=>
      rename_i e htu
      simp only[Option.map_eq_some_iff]at hc
      obtain⟨z,hz,hc⟩:=hc
      simp at hc;subst hc
      have hcc:=Z0 hb hx ht
      subst hcc
      exact bq hρ ho htu hz hx' k ha
     all_goals(simp at hc<;>subst hc<;>simp[Bn.light]at hl)
    ·rename_i x y t u hx ht
     have hcc:=eA hb hx ht
     subst hcc
     simp only[Option.bind_eq_some_iff]at hc
     obtain⟨x',hx',y',hy',hc⟩:=hc
     split at hc
     ·rename_i e htu
      split at hc
      ·simp at hc
      ·rename_i d hd1 hu
       simp only[Option.bind_eq_some_iff]at hc
       obtain⟨ie,hi,z,hz,hc⟩:=hc
       split at hc
       ·rename_i hb2
        simp at hc;subst hc
        exact TK hρ ho htu hu (fun k e=>hd1 k e) hi hz hb2.1 hb2.2 hx' hy' k Gl hnx hlo ha
       ·simp at hc
      ·simp at hc
     ·rename_i e htu
      simp only[Option.map_eq_some_iff]at hc
      obtain⟨s,hs,hc⟩:=hc
      simp at hc;subst hc
      exact Yr hρ ho htu hs hx' hy' k ha
     ·rename_i e htu
      simp at hc;subst hc
      simp only[BZ,Option.map_eq_some_iff,Prod.mk.injEq]at ha
      obtain⟨h1,ha,rfl,rfl⟩:=ha
      exact TJ hρ ho htu hx' hy' k ha
     all_goals first
      |(simp at hc;done)
      |(simp at hc;subst hc;simp[Bn.light]at hl)
    ·split at hc<;>simp only[Option.map_eq_some_iff,reduceCtorEq]at hc<;>obtain⟨_,_,hc⟩:=hc<;>simp at hc<;>subst hc<;>simp[Bn.light]at hl
  case binOp op t x y t'=>
   obtain⟨sA,hb,hc⟩:=hc
   simp at hc;subst hc
   exact absurd (PN hb).2 hl
  all_goals exfalso
  case makeMap t r=>cases r<;>simp at hc;subst hc;simp[Bn.light]at hl
  case move=>obtain⟨_,_,hc⟩:=hc;simp at hc;subst hc;simp[Bn.light]at hl
  case assign=>obtain⟨_,_,hc⟩:=hc;simp at hc;subst hc;simp[Bn.light]at hl
  case pick=>obtain⟨_,_,_,_,_,_,hc⟩:=hc;simp at hc;subst hc;simp[Bn.light]at hl
  case alloc=>obtain⟨_,_,hc⟩:=hc;simp at hc;subst hc;simp[Bn.light]at hl
  case box=>obtain⟨_,_,hc⟩:=hc;simp at hc;subst hc;simp[Bn.light]at hl
  all_goals
   repeat'(first
    |(simp[Bn.light]at hl;done)
    |(simp at hc;done)
    |(simp at hc;subst hc;simp[Bn.light]at hl;done)
    |(simp only[Option.bind_eq_some_iff]at hc;obtain⟨_,_,hc⟩:=hc)
    |(simp only[Option.map_eq_some_iff]at hc;obtain⟨_,_,hc⟩:=hc)
    |split at hc
    |(obtain⟨_,_,hc⟩:=hc))

end
end AE

/- The evaluator's code in the machine: rules for walking it. -/
namespace AE
open Go Go.RowKit


def LM (ops:Array Oper):Option (Nat × Bool)->Option (Option (Nat × Bool))
 |none=>some none
 |some (j,b)=>((ops[j]?).bind (·.dst)).map fun t=>some (t,b)
def NN:LX->Bool
 |.op o=>o.known
 |.call _ _=>true
def IZ (n:Nat):Option Nat->Bool
 |none=>true
 |some d=>decide (d<n)
def KW (P:Program) (n:Nat) (ops:Array Oper) (o:Oper):Option Ao:=
 (LM ops o.guard).bind fun g=>(comp P o).bind fun i=>if NN i&&IZ n o.dst then some ⟨o.dst,g,i⟩else none
def Cf (P:Program) (n:Nat) (ops:Array Oper):List Oper->Option (List Ao)
 |[]=>some []
 |o::os=>(KW P n ops o).bind fun x=>(Cf P n ops os).map (x:: ·)

theorem BN {P:Program}{n:Nat}{ops:Array Oper}:∀{os:List Oper} {xs:List Ao},Cf P n ops os=some xs->xs.length=os.length/\∀(i:Nat) (o:Oper),os[i]? =some o->∃x,xs[i]? =some x/\KW P n ops o=some x
 |[],xs,h=>by simp[Cf]at h;subst h;simp
 | o::os,xs,h=>by
   simp only[Cf,Option.bind_eq_some_iff,Option.map_eq_some_iff]at h
   obtain⟨x,hx,ys,hys,rfl⟩:=h
   obtain⟨h1,h2⟩:=BN hys
   refine⟨by simp[h1],fun i o' ho=>?_⟩
   cases i with
   |zero=>simp at ho;subst ho;exact⟨x,by simp,hx⟩
   |succ i=>simp at ho;simpa using h2 i o' ho


def WR (ro:Option Nat):Fence:={Fence.wide with round:=ro}
theorem dB (ro:Option Nat) (n:Nat):(WR ro).room n:=fun _ h=>by simp[WR,Fence.wide]at h
theorem DC (P:Program) (ro:Option Nat) (m:Machine):m.fenced P (WR ro):=fenced_wide P m
theorem Na {P:Program}{ro:Option Nat}{m m':Machine}(h:Steps P m m'):StepsIn (Machine.fenced P (WR ro)) P m m':=
 (StepsIn.of_steps h).mono fun m _=>DC P ro m
theorem UF {P:Program}{ro:Option Nat}{m m':Machine}{e:Ending}(h:Comes P m m' e):ComesIn (Machine.fenced P (WR ro)) P m m' e:=by
 cases e with
 |returned v=>exact Na h
 |panicked chain=>exact Na h
 |outgrown=>exact h
theorem JZ {n:Nat}{P:Program}{ro:Option Nat}{f:FuncId}{args:Array Value}{w:World}{R:Ending->World->Prop}(h:Calls P f args w R):CallsIn (WR ro) n P f args w R:=
 ⟨trivial,fun cs _=>let⟨e,w',fr,r,s,x⟩:=h cs;⟨e,w',fr,r,UF s,x⟩⟩

structure BR (I J:Al) (lo base:Nat) (h':H) (w w':World):Prop where
 grows:BA I J w
 dom:∀r,J.dom r->I.dom r\/base<=r
 old:∀r s p,r<lo->J.at_ r s=some p->I.at_ r s=some p
 rel:Rel J h' w'
 ext:Ext I lo w w'

structure Quiet (lo:Nat) (h h':H):Prop where
 next:h.next<=h'.next
 same:∀r,r<lo->h'.get r=h.get r
 clean:(∀r,h.next<=r->h.get r=none)->∀r,h'.next<=r->h'.get r=none
theorem Quiet.refl (lo:Nat) (h:H):Quiet lo h h:=⟨Nat.le_refl _,fun _ _=>rfl,id⟩
theorem Quiet.trans {lo:Nat}{h h' h'':H}(a:Quiet lo h h') (b:Quiet lo h' h''):Quiet lo h h'':=
 ⟨Nat.le_trans a.next b.next,fun r hr=>(b.same r hr).trans (a.same r hr),fun c=>b.clean (a.clean c)⟩
theorem Quiet.mono {lo lo':Nat}{h h':H}(a:Quiet lo h h') (hl:lo'<=lo):Quiet lo' h h':=⟨a.next,fun r hr=>a.same r (by omega),a.clean⟩
theorem BR.mono {I J:Al}{lo lo' base:Nat}{h':H}{w w':World}(a:BR I J lo base h' w w') (hl:lo'<=lo):BR I J lo' base h' w w':=⟨a.grows,a.dom,fun r s p hr=>a.old r s p (by omega),a.rel,a.ext.mono hl⟩
theorem BR.refl {I:Al}{lo base:Nat}{h:H}{w:World}(k:Rel I h w):BR I I lo base h w w:=⟨BA.refl I w,fun _ d=>.inl d,fun _ _ _ _ e=>e,k,Ext.refl I lo w⟩
theorem BR.trans {I J K:Al}{lo base base':Nat}{h' h'':H}{w w' w'':World}(a:BR I J lo base h' w w') (b:BR J K lo base' h'' w' w'') (hn:base<=base'):BR I K lo base h'' w w'':=
 ⟨a.grows.trans b.grows a.ext.size,fun r d=>(b.dom r d).elim (a.dom r) (fun e=>.inr (by omega)),fun r s p hr e=>a.old r s p hr (b.old r s p hr e),b.rel,a.ext.trans a.grows b.ext⟩

structure AF (P:Program) (f:FuncId) (lo:Nat) (h:H) (args:List Value) (v:Value) (h':H):Prop where
 quiet:Quiet lo h h'
 enters:∀(as_:Array Value) (w:World),(callFunc f as_).run P w= .ok (.enter f as_) w
 calls:∀I w,Rel I h w->BH I args->Calls P f ⟨Ah I args⟩ w fun e w'=>∃J,BR I J lo h.next h' w w'/\In J v/\e= .returned (ren J v)

theorem AF.mono {P:Program}{f:FuncId}{lo lo':Nat}{h h':H}{args:List Value}{v:Value}(a:AF P f lo h args v h') (hl:lo'<=lo):AF P f lo' h args v h':=
 ⟨a.quiet.mono hl,a.enters,fun I w k i=>(a.calls I w k i).mono fun _ _ ⟨J,g,r⟩=>⟨J,g.mono hl,r⟩⟩

abbrev Tr:=Option Nat->(Exit->Act->World->Prop)->Act->World->Prop

def Rj (T:Tr):Prop:=∀ro,∀Q Q':Exit->Act->World->Prop,(∀e a w,Q e a w->Q' e a w)->∀a w,T ro Q a w->T ro Q' a w

structure Marks (J:Al) (w w':World) (ms:List Deferred):Prop where
 each:∀m∈ms,∃b,m={target:=.collected b,args:= #[]}/\w.heap.size<=b/\b<w'.heap.size/\w'.heap[b]? =some (.deferred (some []))/\∀r s d,J.at_ r s≠some (b,d)
 apart:ms.Pairwise fun m m'=>m.target≠m'.target
theorem Marks.nil (J:Al) (w w':World):Marks J w w' []:=⟨by simp,by simp⟩
theorem Marks.append {I J K:Al}{lo base:Nat}{h'':H}{w w' w'':World}{ms ms':List Deferred}(a:Marks J w w' ms) (b:Marks K w' w'' ms') (W:BR J K lo base h'' w' w'') (hs:w.heap.size<=w'.heap.size):Marks K w w'' (ms'++ms):=by
 refine⟨fun m hm=>?_,List.pairwise_append.2 ⟨b.apart,a.apart,fun m hm m' hm' e=>?_⟩⟩
 ·rcases List.mem_append.1 hm with hm|hm
  ·obtain⟨x,h1,h2,h3⟩:=b.each m hm
   exact⟨x,h1,by omega,h3⟩
  ·obtain⟨x,h1,h2,h3,h4,h5⟩:=a.each m hm
   refine⟨x,h1,h2,by have:=W.ext.size;omega,?_,fun r s d e=>?_⟩
   ·rw[W.ext.block x h3 (fun r s d e=>absurd e (h5 r s d))];exact h4
   ·rcases W.grows.new r s x d e with e|e|⟨s',d',e⟩
    ·exact h5 _ _ _ e
    ·omega
    ·exact h5 _ _ _ e
 ·obtain⟨x,h1,h2, -⟩:=b.each m hm
  obtain⟨y,g1, -,g3, -⟩:=a.each m' hm'
  rw[h1,g1]at e
  simp at e
  omega

def Goes (T:Tr) (n lo:Nat) (ts:Ts) (h:H) (e:Exit) (ts':Ts) (h':H):Prop:=
 ∀ro I w a,Rel I h w->Bv I n ts a.tmps->T ro (fun e' a' w'=>e'=e/\∃J,BR I J lo h.next h' w w'/\Bv J n ts' a'.tmps/\∃ms,a'.defers=ms++a.defers/\Marks J w w' ms) a w

def WT (T:Tr) (n lo:Nat) (Q:Exit->Ts->H->Prop) (ts:Ts) (h:H):Prop:=
 ∃e ts' h',Q e ts' h'/\Quiet lo h h'/\Goes T n lo ts h e ts' h'

theorem WT.mono {T:Tr}{n lo:Nat}{Q Q':Exit->Ts->H->Prop}{ts:Ts}{h:H}(a:WT T n lo Q ts h) (hq:∀e ts h,Q e ts h->Q' e ts h):WT T n lo Q' ts h:=
 let⟨e,ts',h',q,r⟩:=a;⟨e,ts',h',hq _ _ _ q,r⟩

def Da (K:Ts->H->Prop) (Q:Exit->Ts->H->Prop):Exit->Ts->H->Prop
 |.normal,ts,h=>K ts h
 |e,ts,h=>Q e ts h

theorem WT.then {T1 T2 T:Tr}{n lo:Nat}{Q:Exit->Ts->H->Prop}{ts:Ts}{h:H}(m1:Rj T1) (m2:Rj T2) (hT:∀ro Q a w,T1 ro (Exit.then (T2 ro Q) Q) a w->T ro Q a w)
 (a:WT T1 n lo (Da (WT T2 n lo Q) Q) ts h):WT T n lo Q ts h:=by
 obtain⟨e,FC,h1,q,hq,g⟩:=a
 by_cases he:e= .normal
 ·subst he
  obtain⟨e2,Wm,h2,q2,hq2,g2⟩:=q
  refine⟨e2,Wm,h2,q2,hq.trans hq2,fun ro I w a k t=>hT _ _ _ _ (m1 _ _ _ ?_ _ _ (g ro I w a k t))⟩
  rintro e' a' w' ⟨rfl,J,hw,t',ms,hd,hms⟩
  refine m2 _ _ _ ?_ _ _ (g2 ro J w' a' hw.rel t')
  rintro e' a'' w'' ⟨rfl,K,hw',t'',ms',hd',gJ⟩
  exact⟨rfl,K,hw.trans hw' hq.next,t'',ms'++ms,by rw[hd',hd,List.append_assoc],hms.append (I:=I) gJ hw' hw.ext.size⟩
 ·refine⟨e,FC,h1,?_,hq,fun ro I w a k t=>hT _ _ _ _ (m1 _ _ _ ?_ _ _ (g ro I w a k t))⟩
  ·cases e<;>first|exact absurd rfl he|exact q
  ·rintro e' a' w' ⟨rfl,J,hw,t',hd⟩
   cases e'<;>first|exact absurd rfl he|exact⟨rfl,J,hw,t',hd⟩

def TC (tp:Bool) (P:Program) (C:Code):Tr:=fun ro Q a w=>(tp=true->ro=none)->C.wpIn (WR ro) 0 P Q a w
theorem A8 (tp:Bool) (P:Program) (C:Code):Rj (TC tp P C):=fun _ _ _ hq _ _ h htp=>Go.wpIn_mono (h htp) hq

def TL (tp:Bool) (P:Program) (c:Code):Tr:=fun ro Q a w=>(tp=true->ro=none)->∀(b:Frame) (k:List Item) (cs:List Frame),b.roundOf=ro->
 ∃e a' w',Q e a' w'/\ArrivesIn (Machine.fenced P (WR ro)) P (lone (b.atR a (.code c:: .inLoop c::k)) cs w) b k cs e a' w'
theorem V3 (tp:Bool) (P:Program) (C:Code):Rj (TL tp P C):=fun _ _ _ hq _ _ h htp b k cs hb=>
 let⟨e,a',w',q,r⟩:=h htp b k cs hb;⟨e,a',w',hq _ _ _ q,r⟩
theorem Tg {tp:Bool}{P:Program}{c:Code}(ro:Option Nat) (Q:Exit->Act->World->Prop) (a:Act) (w:World) (h:TC tp P c ro (Exit.then (TL tp P c ro Q) Q) a w):TL tp P c ro Q a w:=by
 intro htp b k cs hro
 obtain⟨e,a₁,w₁,hq,harr⟩:=h htp b (.inLoop c::k) cs hro trivial (dB ro _)
 cases e with
 | normal=>
   obtain⟨e₂,a₂,w₂,hq₂,harr₂⟩:=hq htp b k cs hro
   exact⟨e₂,a₂,w₂,hq₂,.of_steps (StepsIn.trans harr (.one (DC P ro _) stepR_inLoop)) harr₂⟩
 |exit id=>exact⟨_,a₁,w₁,hq,.pass (x:=.inLoop c) rfl (fun _ _=>.inl (by simp)) harr⟩
 |goto l=>exact⟨_,a₁,w₁,hq,.pass (x:=.inLoop c) rfl (fun _ _=>.inl (by simp)) harr⟩
 |ret=>exact⟨_,a₁,w₁,hq,.pass (x:=.inLoop c) rfl (fun _ _=>.inl (by simp)) harr⟩
 |panic ch=>exact⟨_,a₁,w₁,hq,.pass (x:=.inLoop c) rfl (fun _ _=>.inl (by simp)) harr⟩
 |outgrown=>exact⟨_,a₁,w₁,hq,.pass (x:=.inLoop c) rfl (fun _ _=>.inl (by simp)) harr⟩
theorem V4 {tp:Bool}{P:Program}{c:Code}(ro:Option Nat) (Q:Exit->Act->World->Prop) (a:Act) (w:World) (h:TL tp P c ro Q a w):TC tp P (.loop c) ro Q a w:=by
 intro htp b k cs hro _ _
 obtain⟨e,a',w',hq,harr⟩:=h htp b k cs hro
 exact⟨e,a',w',hq,.of_steps (.one (DC P ro _) stepR_loop) harr⟩

section
variable {tp:Bool}{P:Program}{n lo:Nat}{Q:Exit->Ts->H->Prop}{ts:Ts}{h:H}

theorem WT.loop {c:Code}(a:WT (TL tp P c) n lo Q ts h):WT (TC tp P (.loop c)) n lo Q ts h:=
 let⟨e,ts',h',q,hq,g⟩:=a;⟨e,ts',h',q,hq,fun ro I w a k t=>V4 _ _ _ _ (g ro I w a k t)⟩
theorem WT.round {c:Code}(a:WT (TC tp P c) n lo (Da (WT (TL tp P c) n lo Q) Q) ts h):WT (TL tp P c) n lo Q ts h:=
 WT.then (A8 tp P c) (V3 tp P c) Tg a
theorem WT.seq {x y:Code}(a:WT (TC tp P x) n lo (Da (WT (TC tp P y) n lo Q) Q) ts h):WT (TC tp P (.seq x y)) n lo Q ts h:=
 WT.then (A8 tp P x) (A8 tp P y) (fun _ _ _ _ h htp=>wpIn_seq (Go.wpIn_mono (h htp) (fun e _ _ q=>by cases e<;>first|exact q htp|exact q))) a
theorem WT.here {C:Code}{e:Exit}(hC:∀ro (Q:Exit->Act->World->Prop) a w,Q e a w->C.wpIn (WR ro) 0 P Q a w) (q:Q e ts h):WT (TC tp P C) n lo Q ts h:=
 ⟨e,ts,h,q,Quiet.refl lo h,fun ro I w a k t _=>hC _ _ _ _ ⟨rfl,I,BR.refl k,t,[],rfl,Marks.nil _ _ _⟩⟩
theorem WT.skip (q:Q .normal ts h):WT (TC tp P .skip) n lo Q ts h:=WT.here (fun _ _ _ _ h=>wpIn_skip h) q
theorem WT.label {l:Nat}(q:Q .normal ts h):WT (TC tp P (.label l)) n lo Q ts h:=WT.here (fun _ _ _ _ h=>wpIn_label h) q
theorem WT.ret (q:Q .ret ts h):WT (TC tp P .ret) n lo Q ts h:=WT.here (fun _ _ _ _ h=>wpIn_ret h) q
theorem WT.exit {id:Nat}(q:Q (.exit id) ts h):WT (TC tp P (.exit id)) n lo Q ts h:=WT.here (fun _ _ _ _ h=>wpIn_exit h) q

def C9 (id:Nat) (Q:Exit->Ts->H->Prop):Exit->Ts->H->Prop
 |.exit id',ts,h=>if id'=id then Q .normal ts h else Q (.exit id') ts h
 |e,ts,h=>Q e ts h
theorem WT.block {id:Nat}{c:Code}(a:WT (TC tp P c) n lo (C9 id Q) ts h):WT (TC tp P (.block id c)) n lo Q ts h:=by
 obtain⟨e,ts',h',q,hq,g⟩:=a
 by_cases he:e= .exit id
 ·subst he
  simp only[C9,if_true]at q
  refine⟨.normal,ts',h',q,hq,fun ro I w a k t htp=>wpIn_block (Go.wpIn_mono (g ro I w a k t htp) ?_)⟩
  rintro e' a' w' ⟨rfl,J,r⟩
  simp only[Exit.inBlock,if_true]
  exact⟨trivial,J,r⟩
 ·refine⟨e,ts',h',?_,hq,fun ro I w a k t htp=>wpIn_block (Go.wpIn_mono (g ro I w a k t htp) ?_)⟩
  ·cases e<;>try exact q
   rename_i id'
   simp only[C9]at q
   split at q
   ·rename_i h;subst h;exact absurd rfl he
   ·exact q
  ·rintro e' a' w' ⟨rfl,J,r⟩
   cases e'<;>try exact⟨rfl,J,r⟩
   rename_i id'
   simp only[Exit.inBlock]
   split
   ·rename_i h;subst h;exact absurd rfl he
   ·exact⟨trivial,J,r⟩

theorem Bv.ev {I:Al}{a:Act}(t:Bv I n ts a.tmps):Ev I ts a.eval:=by
 intro x x' hx
 cases x with
 |tmp i=>simp[AJ]at hx;subst hx;exact t.2 i
 | const v=>
   simp only[AJ]at hx
   split at hx<;>simp at hx
   rename_i hf
   subst hx
   obtain⟨e,i⟩:=Bi I v hf
   exact⟨e.symm,i⟩
 |global g=>simp[AJ]at hx
 | func f=>
   simp[AJ]at hx;subst hx
   obtain⟨e,i⟩:=Bi I (.func (.func f) #[] #[]) (by simp[flat,LA,B7])
   exact⟨e.symm,i⟩

theorem WT.cond {c:Operand}{c':AP}{x y:Code}{b:Bool}(hc:AJ c=some c') (hb:ev ts c'= .bool b) (a:WT (TC tp P (if b then x else y)) n lo Q ts h):WT (TC tp P (.cond c x y)) n lo Q ts h:=by
 obtain⟨e,ts',h',q,hq,g⟩:=a
 refine⟨e,ts',h',q,hq,fun ro I w a k t htp=>wpIn_cond (t:=b) ?_ (g ro I w a k t htp)⟩
 rw[(t.ev c c' hc).1,hb];simp[ren]

end
end AE

/- Regions that are walked in the order of the text. -/
namespace AE
open Go Go.RowKit

def Mw (ρ:Operand->Value) (o:Oper) (c:Call) (fv:Value):Prop:=resolve ρ c o.type=Deferred.ofValue fv (c.args.map ρ)
structure Eg (P:Program) (fv:Value) (lo:Nat) (h:H) (args:List Value) (v:Value) (h':H):Prop where
 quiet:Quiet lo h h'
 run:∀(o:Oper) (c:Call) (ro:Option Nat) (a:Act) (I:Al) (w:World) (K:Act->World->Prop) (Q:Exit->Act->World->Prop),o.op= .call c->Mw a.eval o c (ren I fv)->
  c.args.toList.map a.eval=Ah I args->Rel I h w->In I fv->BH I args->(∀J w',BR I J lo h.next h' w w'->In J v->K (a.put o.dst (ren J v)) w')->o.wpIn (WR ro) 0 P a w K Q
theorem Eg.mono {P:Program}{fv:Value}{lo lo':Nat}{h h':H}{args:List Value}{v:Value}(a:Eg P fv lo h args v h') (hl:lo'<=lo):Eg P fv lo' h args v h':=
 ⟨a.quiet.mono hl,fun o c ro b I w K Q h1 h2 h4 h5 h6 h7 h8=>a.run o c ro b I w K Q h1 h2 h4 h5 h6 h7 fun J w' hw hi=>h8 J w' (hw.mono hl) hi⟩

def Run (P:Program) (lo:Nat) (q:Bool) (base:Nat):Nat->List Ao->(Ts->H->Prop)->Ts->H->Prop
 |_,[],K,ts,h=>K ts h
 | i,o::rest,K,ts,h=>
   if BF ts o.guard=true then
    match o.ins with
    |.op ao=>∃v h',BZ P lo (base+i) ts h ao=some (v,h')/\Run P lo q base (i+1) rest K (EY ts v o.dst) h'
    |.call f args=>∃v h',Eg P (ev ts f) (if q then h.next else lo) h (args.map (ev ts)) v h'/\Run P lo q base (i+1) rest K (EY ts v o.dst) h'
   else Run P lo q base (i+1) rest K (EY ts undef o.dst) h

theorem Il (h:H) (u:Option (Nat × A9)):(h.upd u).next=h.next:=by cases u<;>rfl
theorem Q8 {P:Program}{lo Av:Nat}{ts:Ts}{h h':H}{v:Value}{ao:Bn}(ha:BZ P lo Av ts h ao=some (v,h')):
 ∃u,h'=h.upd u/\(∀r row,u=some (r,row)->(r=Av\/(lo<=r/\r∈ao.wr ts/\h.get r≠none))):=by
 by_cases hne:ao.O8=true
 ·obtain⟨u,e,h2, -⟩:=PR hne ha
  exact⟨u,e,h2⟩
 ·cases ao<;>first|(simp[Bn.O8]at hne;done)|skip
  rename_i x
  simp only[BZ,keep,Option.map_eq_some_iff,Prod.mk.injEq]at ha
  obtain⟨_,_, -,rfl⟩:=ha
  exact⟨none,rfl,by simp⟩
theorem Te {P:Program}{lo Av:Nat}{ts:Ts}{h h':H}{v:Value}{ao:Bn}(ha:BZ P lo Av ts h ao=some (v,h')):h'.next=h.next:=by
 obtain⟨u,rfl, -⟩:=Q8 ha
 exact Il h u
theorem LU {P:Program}{lo Av:Nat}{ts:Ts}{h h':H}{v:Value}{ao:Bn}(ha:BZ P lo Av ts h ao=some (v,h')) (hn:lo<=Av) (hnx:Av<h.next):Quiet lo h h':=by
 obtain⟨u,rfl,h2⟩:=Q8 ha
 refine⟨by rw[Il];exact Nat.le_refl _,fun r hr=>?_,fun hc r hr=>?_⟩
 ·cases u with
  |none=>rfl
  | some p=>
    simp only[H.upd,H.put]
    rw[if_neg]
    intro e
    rcases h2 p.1 p.2 rfl with e'|e'
    ·omega
    ·have:=e'.1;omega
 ·rw[Il]at hr
  cases u with
  |none=>exact hc r hr
  | some p=>
    simp only[H.upd,H.put]
    rw[if_neg]
    ·exact hc r hr
    intro e
    rcases h2 p.1 p.2 rfl with e'|e'
    ·omega
    ·exact e'.2.2 (hc _ (by omega))

theorem Bv.put {I:Al}{n:Nat}{ts:Ts}{a:Act}{v:Value}{dst:Option Nat}(t:Bv I n ts a.tmps) (hv:In I v) (hd:IZ n dst=true):Bv I n (EY ts v dst) (a.put dst (ren I v)).tmps:=by
 cases dst with
 |none=>exact t
 | some d=>
   simp only[IZ,decide_eq_true_eq]at hd
   refine⟨by simp[Act.put,t.1],fun i=>?_⟩
   simp only[EY,GL,Act.put,Array.getD_eq_getD_getElem?,Array.getElem?_setIfInBounds]
   by_cases hi:i=d
   ·subst hi
    simp[t.1,hd,hv]
   ·rw[if_neg (fun e=>hi e.symm),if_neg hi,<-Array.getD_eq_getD_getElem?]
    exact t.2 i
theorem Act.Cd (a:Act) (d:Option Nat) (v:Value):(a.put d v).defers=a.defers:=by cases d<;>rfl
theorem BV (I:Al):ren I undef=undef/\In I undef:=by simp[undef,ren,Ah,In,BH]

theorem EC {I:Al}{n:Nat}{ts:Ts}{a:Act}{ops:Array Oper}{o:Oper}{g:Option (Nat × Bool)}(t:Bv I n ts a.tmps) (hg:LM ops o.guard=some g):Region.wanted o (yielded ops a.tmps)=BF ts g:=by
 unfold Region.wanted
 cases ho:o.guard with
 |none=>rw[ho]at hg;simp[LM]at hg;subst hg;rfl
 | some p=>
   obtain⟨j,b⟩:=p
   rw[ho]at hg
   simp only[LM,Option.map_eq_some_iff]at hg
   obtain⟨d,hd,rfl⟩:=hg
   have h2:=(t.2 d).1
   simp only[BF,yielded,hd,Option.bind_some]
   rw[Array.getD_eq_getD_getElem?]at h2
   cases hh:a.tmps[d]? with
   | none=>
     rw[hh]at h2
     simp only[Option.getD_none]at h2
     cases ht:ts d<;>rw[ht]at h2<;>first|rfl|(simp[ren,undef]at h2;done)
   | some x=>
     rw[hh]at h2
     simp only[Option.getD_some]at h2
     subst h2
     cases ht:ts d with
     |bool c=>simp[ren]
     |pointer p=>cases p<;>simp[ren]
     | slice p _ c=>
       cases p with
       |none=>simp[ren]
       |some p=>rcases Nat.lt_or_ge c far with hc|hc<;>simp[BD,CR,hc]
     |map p=>cases p<;>simp[ren]
     |_=>simp[ren]

theorem Py {P:Program}{ρ:Operand->Value}{o:Oper}{c:Call}{g:FuncId}{first BL:Array Value}{w:World}(ho:o.op= .call c) (hf:Mw ρ o c (.func (.func g) first BL))
 (he:∀(as_:Array Value) (w:World),(callFunc g as_).run P w= .ok (.enter g as_) w):(execOp ρ o).run P w= .ok (.enter g (first++c.args.map ρ++BL)) w:=by
 unfold Mw at hf
 simp[execOp,ho,hf,Deferred.ofValue,invoke,he]

theorem Gc {P:Program}{o:Oper}{x:LX}(h:comp P o=some x):∀c,o.op≠ .defer c:=by
 intro c hc
 unfold comp at h
 rw[hc]at h
 simp at h

theorem Ho {I:Al}{ts:Ts}{ρ:Operand->Value}(hρ:Ev I ts ρ):∀{xs:List Operand} {ys:List AP},Fu xs=some ys->xs.map ρ=Ah I (ys.map (ev ts))/\BH I (ys.map (ev ts))
 |[],ys,h=>by simp[Fu]at h;subst h;simp[Ah,BH]
 | x::xs,ys,h=>by
   simp only[Fu,Option.bind_eq_some_iff,Option.map_eq_some_iff]at h
   obtain⟨y,hy,zs,hz,rfl⟩:=h
   obtain⟨e1,i1⟩:=hρ x y hy
   obtain⟨e2,i2⟩:=Ho hρ hz
   simp[Ah,BH,e1,e2,i1,i2]

theorem Jp {P:Program}{o:Oper}{f':AP}{as_:List AP}(h:comp P o=some (.call f' as_)):∃c,o.op= .call c/\(∀I ts ρ,Ev I ts ρ->Mw ρ o c (ren I (ev ts f'))/\In I (ev ts f'))/\Fu c.args.toList=some as_:=by
 have h:KS P o=some (.call f' as_):=by
  unfold comp at h
  split at h
  ·cases h
  ·cases h
  ·cases e:KS P o with
   |none=>rw[e]at h;simp at h
   |some x=>rw[e]at h;simpa using h
 unfold KS at h
 cases ho:o.op<;>rw[ho]at h<;>simp only[Option.bind_eq_some_iff,Option.map_eq_some_iff,reduceCtorEq]at h
 case call c=>
  unfold Oc at h
  split at h
  ·rename_i f hf
   simp only[Option.bind_eq_some_iff,Option.map_eq_some_iff]at h
   obtain⟨f1,h1,vw,h2,h3⟩:=h
   simp at h3
   obtain⟨rfl,rfl⟩:=h3
   refine⟨c,rfl,fun I ts ρ hρ=>?_,h2⟩
   obtain⟨e1,i1⟩:=hρ f _ h1
   refine⟨?_,i1⟩
   unfold Mw
   rw[<-e1]
   simp[resolve,hf]
  ·rename_i x nm hf
   split at h
   ·rename_i n hx
    simp only[Option.map_eq_some_iff]at h
    obtain⟨vw,h2,h3⟩:=h
    simp at h3
    obtain⟨rfl,rfl⟩:=h3
    refine⟨c,rfl,fun I ts ρ hρ=>?_,h2⟩
    obtain⟨e1,i1⟩:=hρ x _ hx
    simp only[ev]at e1 i1
    refine⟨?_,by simp[ev,In,Gn,BH,i1]⟩
    unfold Mw
    simp[resolve,hf,ev,ren,DY,Ah,Deferred.ofValue,e1]
   ·simp at h
  ·exfalso
   repeat'(first
    |(simp at h;done)
    |(simp only[Option.bind_eq_some_iff]at h;obtain⟨_,_,h⟩:=h)
    |(simp only[Option.map_eq_some_iff]at h;obtain⟨_,_,h⟩:=h)
    |split at h)
 case makeMap t r=>cases r<;>simp at h
 all_goals exfalso
 all_goals
  repeat'(first
   |(simp at h;done)
   |(simp only[Option.bind_eq_some_iff]at h;obtain⟨_,_,h⟩:=h)
   |(simp only[Option.map_eq_some_iff]at h;obtain⟨_,_,h⟩:=h)
   |split at h
   |(obtain⟨_,_,h⟩:=h))

section
variable {P:Program}{ro:Option Nat}{n lo base:Nat}

theorem FW {o:Oper}{a:Act}{w w':World}{nx:Next}{v:Value}{K:Act->World->Prop}{Q:Exit->Act->World->Prop}(hd:∀c,o.op≠ .defer c)
 (hr:(execOp a.eval o).run P w= .ok nx w') (hn:nx= .value v\/(nx= .skip/\v=undef)) (hK:K (a.put o.dst v) w'):o.wpIn (WR ro) 0 P a w K Q:=by
 refine⟨fun _ _=>trivial,?_⟩
 rw[Oper.semAt_eq _ _ _ hd,hr]
 rcases hn with rfl|⟨rfl,rfl⟩
 ·exact hK
 ·exact hK

theorem Jc {o:Oper}{a:Act}{w:World}{g:FuncId}{as_:Array Value}{K:Act->World->Prop}{Q:Exit->Act->World->Prop}(hd:∀c,o.op≠ .defer c)
 (hr:(execOp a.eval o).run P w= .ok (.enter g as_) w) (hc:Calls P g as_ w fun e w'=>∃v,e= .returned v/\K (a.put o.dst v) w'):o.wpIn (WR ro) 0 P a w K Q:=by
 refine⟨fun _ _=>trivial,?_⟩
 rw[Oper.semAt_eq _ _ _ hd,hr]
 refine⟨fun h=>by simp[WR,Fence.wide]at h,JZ (hc.mono ?_)⟩
 rintro e w' ⟨v,rfl,hK⟩
 exact hK

theorem AF.V0 {g:FuncId}{first BL args:List Value}{h h':H}{v:Value}(hcall:AF P g lo h (first++args++BL) v h'):Eg P (.func (.func g) ⟨first⟩ ⟨BL⟩) lo h args v h':=by
 refine⟨hcall.quiet,fun o c ro a I w K Q ho ef Mi k iF Mt hK=>?_⟩
 simp only[ren,DY,In,Gn,true_and]at ef iF
 refine Jc (fun c' e=>by rw[ho]at e;simp at e) (Py ho ef hcall.enters) ?_
 have NW:((⟨Ah I first⟩:Array Value)++c.args.map a.eval++⟨Ah I BL⟩)=⟨Ah I (first++args++BL)⟩:=by
  apply Array.ext'
  simp[BM,Mi]
 rw[NW]
 refine(hcall.calls I w k (by rw[B4,B4];exact⟨⟨iF.1,Mt⟩,iF.2⟩)).mono ?_
 rintro e w1 ⟨J,AV,hin,rfl⟩
 exact⟨_,rfl,hK J w1 AV hin⟩

theorem Kl {q:Bool}{ops:Array Oper}{xs:List Ao}{K:Ts->H->Prop}(hx:Cf P n ops ops.toList=some xs) (hlo:lo<=base):∀(m i:Nat),i+m=xs.length->∀(ts:Ts) (h:H),base+xs.length<=h.next->Run P lo q base i (xs.drop i) K ts h->
 ∃ts' h',K ts' h'/\Quiet lo h h'/\∀ro I w a,Rel I h w->Bv I n ts a.tmps->(∀j,i<=j->j<xs.length->¬I.dom (base+j))->∀Q:Exit->Act->World->Prop,
  (∀J w' a',BR I J lo base h' w w'->Bv J n ts' a'.tmps->a'.defers=a.defers->Q .normal a' w')->wpOpsIn (WR ro) 0 P ops Q (List.range' i m) a w
 | 0,i,hi,ts,h,hn,hr=>by
   rw[List.drop_of_length_le (by omega)]at hr
   refine⟨ts,h,hr,Quiet.refl _ _,fun ro I w a k t _ Q hQ=>?_⟩
   simp only[List.range'_zero,wpOpsIn]
   exact hQ I w a (BR.refl k) t rfl
 | m + 1,i,hi,ts,h,hn,hr=>by
   obtain⟨hlen,hget⟩:=BN hx
   have hil:i<xs.length:=by omega
   have lj:i<ops.toList.length:=by omega
   obtain⟨x,hxi,hxo⟩:=hget i ops.toList[i] (List.getElem?_eq_getElem lj)
   have hoi:ops[i]? =some ops.toList[i]:=by rw[<-Array.getElem?_toList];exact List.getElem?_eq_getElem lj
   generalize ops.toList[i]=o at hxo hoi
   rw[List.drop_eq_getElem_cons hil]at hr
   have hxe:xs[i]=x:=by rw[List.getElem?_eq_getElem hil]at hxi;simpa using hxi
   rw[hxe]at hr
   simp only[KW,Option.bind_eq_some_iff]at hxo
   obtain⟨gd,hgd,ins,hins,hxo⟩:=hxo
   split at hxo
   ·rename_i hok
    simp only[Bool.and_eq_true]at hok
    simp only[Option.some.injEq]at hxo
    subst hxo
    simp only[Run]at hr
    have hdef:=Gc hins
    have hm:i+1+m=xs.length:=by omega
    split at hr
    ·rename_i hw
     cases ins with
     | op ao=>
       simp only at hr
       obtain⟨v,h1,ha,hr⟩:=hr
       have hnx:=Te ha
       have hq:=LU ha (Av:=base+i) (by omega) (by omega)
       obtain⟨ts',h',hK,hq',hrest⟩:=Kl hx hlo m (i+1) hm _ _ (by rw[hnx];exact hn) hr
       refine⟨ts',h',hK,hq.trans hq',fun ro I w a k t hfr Q hQ=>?_⟩
       obtain⟨J,w1,nx,⟨hg,hdom,hold⟩,hrel,hin,hext,hrun,gI⟩:=TE t.ev hins hok.1 k (hfr i (Nat.le_refl i) hil) (by omega) (by omega) ha
       rw[List.range'_succ]
       simp only[wpOpsIn,hoi,EC t hgd,hw,if_true]
       refine FW (v:=ren J v) hdef hrun (gI.imp id (fun e=>⟨e.1,by rw[e.2];exact(BV J).1⟩)) ?_
       refine hrest ro J w1 _ hrel ((t.le hg.le).put hin hok.2) (fun j hj hjl d=>?_) Q (fun J' w' a' hw' t' hd'=>?_)
       ·rcases hdom _ d with d|d
        ·exact hfr j (by omega) hjl d
        ·omega
       ·refine hQ J' w' a' ?_ t' (hd'.trans (Act.Cd a o.dst (ren J v)))
        exact BR.trans ⟨hg,fun r d=>(hdom r d).imp id (fun e=>by omega),hold,hrel,hext⟩ hw' (Nat.le_refl _)
     | call f args=>
       simp only at hr
       obtain⟨v,h1,hcall,hr⟩:=hr
       replace hcall:=hcall.mono (lo':=lo) (by cases q<;>simp;omega)
       obtain⟨ts',h',hK,hq',hrest⟩:=Kl hx hlo m (i+1) hm _ _ (Nat.le_trans hn hcall.quiet.next) hr
       refine⟨ts',h',hK,hcall.quiet.trans hq',fun ro I w a k t hfr Q hQ=>?_⟩
       obtain⟨c,ho,hcf,hcas⟩:=Jp hins
       obtain⟨ef,iF⟩:=hcf I ts _ t.ev
       obtain⟨Mi,Mt⟩:=Ho t.ev hcas
       rw[List.range'_succ]
       simp only[wpOpsIn,hoi,EC t hgd,hw,if_true]
       refine hcall.run o c ro a I w _ Q ho ef Mi k iF Mt fun J w1 AV hin=>?_
       refine hrest ro J w1 _ AV.rel ((t.le AV.grows.le).put hin hok.2) (fun j hj hjl d=>?_) Q (fun J' w' a' hw' t' hd'=>?_)
       ·rcases AV.dom _ d with d|d
        ·exact hfr j (by omega) hjl d
        ·omega
       ·refine hQ J' w' a' ?_ t' (hd'.trans (Act.Cd a o.dst (ren J v)))
        exact BR.trans ⟨AV.grows,fun r d=>(AV.dom r d).imp id (fun e=>by omega),AV.old,AV.rel,AV.ext⟩ hw' (Nat.le_refl _)
    ·rename_i hw
     obtain⟨ts',h',hK,hq',hrest⟩:=Kl hx hlo m (i+1) hm _ _ hn hr
     refine⟨ts',h',hK,hq',fun ro I w a k t hfr Q hQ=>?_⟩
     rw[List.range'_succ]
     have hw':BF ts gd=false:=by simpa using hw
     simp only[wpOpsIn,hoi,EC t hgd,hw',Bool.false_eq_true,if_false]
     refine⟨fun _ _=>trivial,?_⟩
     have hu:=(BV I)
     have tp:=t.put (v:=undef) hu.2 hok.2
     rw[hu.1]at tp
     exact hrest ro I w _ k tp (fun j hj hjl=>hfr j (by omega) hjl) Q (fun J' w' a' hw' t' hd'=>hQ J' w' a' hw' t' (hd'.trans (Act.Cd a o.dst undef)))
   ·simp at hxo

def H.bump (h:H) (k:Nat):H:=⟨h.get,h.next+k⟩
theorem Rel.bump {I:Al}{h:H}{w:World}(k:Rel I h w) (m:Nat):Rel I (h.bump m) w:=⟨k.rows,fun r d=>Nat.lt_of_lt_of_le (k.lt r d) (Nat.le_add_right _ _),k.size,k.base,k.tabs,k.inj,fun r hr=>k.clean r (Nat.le_trans (Nat.le_add_right _ _) hr)⟩

theorem WT.reg {tp q:Bool}{id:Nat}{ops:Array Oper}{xs:List Ao}{Q:Exit->Ts->H->Prop}{ts:Ts}{h:H}(hx:Cf P n ops ops.toList=some xs) (hlo:lo<=h.next) (hr:Run P lo q h.next 0 xs (Q .normal) ts (h.bump xs.length)):
 WT (TC tp P (.region id ops false)) n lo Q ts h:=by
 have hlen:=(BN hx).1
 obtain⟨ts',h',hK,hq,hrest⟩:=Kl hx hlo xs.length 0 (by omega) ts (h.bump xs.length) (Nat.le_refl _) (by simpa using hr)
 refine⟨.normal,ts',h',hK,⟨Nat.le_trans (Nat.le_add_right _ _) hq.next,hq.same,fun hc=>hq.clean fun r hr=>hc r (Nat.le_trans (Nat.le_add_right _ _) hr)⟩,fun ro I w a k t _=>wpIn_region ?_⟩
 have:=hrest ro I w a (k.bump _) t (fun j _ _ d=>by have:=k.lt _ d;omega) (fun e' a' w'=>e'= .normal/\∃J,BR I J lo h.next h' w w'/\Bv J n ts' a'.tmps/\∃ms,a'.defers=ms++a.defers/\Marks J w w' ms)
  (fun J w' a' hw t' hd=>⟨rfl,J,hw,t',[],hd,Marks.nil _ _ _⟩)
 rw[List.range_eq_range',show ops.size=xs.length by rw[hlen];simp]
 exact this

end
end AE

/- Versions: what stands after the latest of those that were taken. -/
namespace AE
open Go

open Classical in
noncomputable def ver (w:Nat->Prop):Nat->Nat
 |0=>0
 |k+1=>if w k then k+1 else ver w k

theorem GU (w:Nat->Prop):∀k,(ver w k=0/\∀j,j<k->¬w j)\/∃j,j<k/\ver w k=j+1/\w j/\∀j',j<j'->j'<k->¬w j'
 |0=>.inl ⟨rfl,fun j hj=>by omega⟩
 | k +1=>by
   by_cases hw:w k
   ·exact .inr ⟨k,by omega,by simp[ver,hw],hw,fun j' h1 h2=>by omega⟩
   ·rcases GU w k with⟨h1,h2⟩|⟨j,h1,h2,h3,h4⟩
    ·refine .inl ⟨by simp[ver,hw,h1],fun j hj=>?_⟩
     by_cases hjk:j=k
     ·subst hjk;exact hw
     ·exact h2 j (by omega)
    ·refine .inr ⟨j,by omega,by simp[ver,hw,h2],h3,fun j' a b=>?_⟩
     by_cases hjk:j'=k
     ·subst hjk;exact hw
     ·exact h4 j' a (by omega)

theorem stays {α:Type}{F:Nat->α}{W:Nat->Prop}{m:Nat}(hF:∀k,k<m->¬W k->F (k+1)=F k) {a:Nat}:∀(d:Nat),a+d<=m->(∀j,a<=j->j<a+d->¬W j)->F (a+d)=F a
 |0,_,_=>rfl
 | d+1,h,hn=>by
   rw[<-Nat.add_assoc,hF (a+d) (by omega) (hn _ (by omega) (by omega))]
   exact stays hF d (by omega) (fun j h1 h2=>hn j h1 (by omega))

theorem FV {α:Type}{F:Nat->α}{W L:Nat->Prop}{m i:Nat}(hF:∀k,k<m->¬W k->F (k+1)=F k) (hi:i<=m) (h:∀j,j<m->W j->(L j↔j<i)):F (ver (fun j=>L j/\W j) m)=F i:=by
 rcases GU (fun j=>L j/\W j) m with⟨h1,h2⟩|⟨j,h1,h2,h3,h4⟩
 ·rw[h1]
  have:=stays (a:=0) hF i (by omega) (fun j _ hj hw=>h2 j (by omega) ⟨(h j (by omega) hw).2 (by omega),hw⟩)
  simpa using this.symm
 ·rw[h2]
  have hji:j<i:=(h j h1 h3.2).1 h3.1
  have:=stays (a:=j+1) hF (i - (j+1)) (by omega) (fun j' a b hw=>h4 j' (by omega) (by omega) ⟨(h j' (by omega) hw).2 (by omega),hw⟩)
  rw[show j+1+(i - (j+1))=i by omega]at this
  exact this.symm

theorem M0 {W L L':Nat->Prop}{m i:Nat}(hW:¬W i) (hL:∀j,j≠i->(L' j↔L j)):ver (fun j=>L' j/\W j) m=ver (fun j=>L j/\W j) m:=by
 induction m with
 |zero=>rfl
 | succ k ih=>
   have e:(L' k/\W k)=(L k/\W k):=by
    by_cases hk:k=i
    ·subst hk;simp[hW]
    ·simp[hL k hk]
   simp only[ver,ih]
   by_cases hw:L k/\W k
   ·rw[if_pos hw,if_pos (e.mpr hw)]
   ·rw[if_neg hw,if_neg (fun h=>hw (e.mp h))]
theorem Mz {W L':Nat->Prop}{m i:Nat}(hi:i<m) (hW:W i) (hL:L' i) (hn:∀j,j<m->i<j->W j->¬L' j):ver (fun j=>L' j/\W j) m=i+1:=by
 rcases GU (fun j=>L' j/\W j) m with⟨h1,h2⟩|⟨j,h1,h2,h3,h4⟩
 ·exact absurd ⟨hL,hW⟩ (h2 i hi)
 ·rw[h2]
  rcases Nat.lt_trichotomy i j with h|h|h
  ·exact absurd h3.1 (hn j h1 h h3.2)
  ·rw[h]
  ·exact absurd ⟨hL,hW⟩ (h4 i h hi)


def Ao.rd (x:Ao):List Nat:=(match x.guard with|some p=>[p.1]|none=>[])++(match x.ins with|.op ao=>ao.rd|.call f as_=>f.rd++fD as_)
def Bn.MY:Bn->List AP
 |.store _ a _=>[a]
 |.append _ _ _ s _=>[s]
 |.copy _ d _=>[d]
 |.aO _ x=>[x]
 |.Fs _ m _ _=>[m]
 |.delete _ m _=>[m]
 |.Ez _ _ m _=>[m]
 |.GC m _ _=>[m]
 |.JB x=>[x]
 |_=>[]
def Bn.DF:Bn->List AP
 |.Ad a|.Bb _ a=>[a]
 |.store _ a _=>[a]
 |.lookup _ _ _ m _=>[m]
 |.JR x=>[x]
 |.jk x=>[x]
 |.append _ _ _ s x=>[s,x]
 |.copy _ d s=>[d,s]
 |.aO _ x=>[x]
 |.Fs _ m _ _=>[m]
 |.delete _ m _=>[m]
 |.Ez _ _ m _=>[m]
 |.GC m _ _=>[m]
 |.EN m=>[m]
 |.JB x=>[x]
 |_=>[]
def Du (ts:Ts) (xs:List AP):List Nat:=xs.flatMap fun x=>Ap (ev ts x)
theorem U2 {ts:Ts}{ao:Bn}{r:Nat}(h:r∈ao.wr ts):r∈Du ts ao.MY:=by
 cases ao<;>simp only[Bn.wr]at h<;>first|(simp at h;done)|(simpa[Bn.MY,Du]using h)|skip
 split at h
 ·simp at h
 ·simpa[Bn.MY,Du]using h
theorem JM (ts:Ts) (ao:Bn):ao.touch ts=Du ts ao.DF:=by cases ao<;>simp[Bn.touch,Bn.DF,Du]
theorem Rt {ao:Bn}{x:AP}(h:x∈ao.MY):x∈ao.DF:=by cases ao<;>simp[Bn.MY,Bn.DF]at h⊢<;>simp[h]
theorem bC {ao:Bn}{x:AP}(h:x∈ao.DF):∀t∈x.rd,t∈ao.rd:=by
 intro t ht
 cases ao<;>simp[Bn.DF]at h<;>simp only[Bn.rd,List.mem_append]
 all_goals first
  |(subst h;exact ht)
  |(subst h;exact .inl ht)
  |(subst h;exact .inl (.inl ht))
  |(rcases h with rfl|rfl;exact .inl ht;exact .inr ht)

def Ao.OG (x:Ao):Bool:=match x.ins with|.call _ _=>true|_=>false
def Ao.MY (x:Ao):List AP:=match x.ins with|.op ao=>ao.MY|_=>[]
def Ao.DF (x:Ao):List AP:=match x.ins with|.op ao=>ao.DF|_=>[]
def Ao.Ec (x:Ao):Bool:=match x.ins with|.op ao=>ao.Ec|_=>true

def EI (ops:Array Oper) (i:Nat):List Nat:=match ops[i]? with
 |some o=>(o.after.toList.filter (Region.binds .any ·)).map (·.on)
 |none=>[]
def Qw (ms:List Nat) (es:List Nat):Nat:=es.foldl (fun m e=>m ||| (1 <<< e) ||| ms.getD e 0) 0
def masks (ops:Array Oper):Nat->List Nat
 |0=>[]
 |k+1=>masks ops k++[Qw (masks ops k) (EI ops k)]

theorem T0 {ms es:List Nat}{j:Nat}:(Qw ms es).testBit j=true->∃e∈es,j=e\/(ms.getD e 0).testBit j=true:=by
 have key:∀(es:List Nat) (m:Nat),(es.foldl (fun m e=>m ||| (1 <<< e) ||| ms.getD e 0) m).testBit j=true->m.testBit j=true\/∃e∈es,j=e\/(ms.getD e 0).testBit j=true:=by
  intro es
  induction es with
  |nil=>intro m h;exact .inl h
  | cons e es ih=>
    intro m h
    rcases ih _ h with h|⟨e',he',h⟩
    ·simp only[Nat.testBit_or,Bool.or_eq_true]at h
     rcases h with(h|h)|h
     ·exact .inl h
     ·refine .inr ⟨e,by simp,.inl ?_⟩
      rw[Nat.testBit_shiftLeft]at h
      simp only[Bool.and_eq_true,decide_eq_true_eq]at h
      have:=Nat.testBit_one_eq_true_iff_self_eq_zero.1 h.2
      omega
     ·exact .inr ⟨e,by simp,.inr h⟩
    ·exact .inr ⟨e',by simp[he'],h⟩
 intro h
 rcases key es 0 h with h|h
 ·simp at h
 ·exact h

theorem FK (ops:Array Oper):∀k,(masks ops k).length=k
 |0=>rfl
 |k+1=>by simp[masks,FK ops k]
theorem FQ (ops:Array Oper):∀(k i:Nat),i<k->(masks ops k).getD i 0=Qw (masks ops i) (EI ops i)
 |0,i,h=>by omega
 | k+1,i,h=>by
   simp only[masks]
   by_cases hi:i=k
   ·subst hi
    rw[List.getD_eq_getElem?_getD,List.getElem?_append_right (by rw[FK];omega)]
    simp[FK]
   ·rw[List.getD_eq_getElem?_getD,List.getElem?_append_left (by rw[FK];omega),<-List.getD_eq_getElem?_getD]
    exact FQ ops k i (by omega)

theorem HD {ops:Array Oper}{L:Nat->Prop}(down:∀i,L i->∀e∈EI ops i,L e) (lt:∀k e,e∈EI ops k->e<k):∀(i:Nat),(∀e∈EI ops i,L e)->∀j,(Qw (masks ops i) (EI ops i)).testBit j=true->L j/\j<i:=by
 intro i
 induction i using Nat.strongRecOn with
 | _ i ih=>
   intro hb j hj
   obtain⟨e,he,h⟩:=T0 hj
   have hlt:=lt i e he
   rcases h with rfl|h
   ·exact⟨hb _ he,hlt⟩
   ·rw[FQ ops i e hlt]at h
    obtain⟨h1,h2⟩:=ih e hlt (down e (hb e he)) j h
    exact⟨h1,by omega⟩

def H9 (d:Option Nat) (l:List Nat):Bool:=match d with|some t=>l.contains t|none=>false
def must (x y:Ao):Bool:=
 H9 x.dst y.rd||H9 y.dst x.rd||(x.dst.isSome&&x.dst==y.dst)||(x.OG&&(y.OG||!y.MY.isEmpty))||(!x.MY.isEmpty&&y.OG)
def QX:AP->Bool
 |.t _=>true
 |.c v=>flat v
 |.m _ _=>true
def ord (ms:List Nat) (i j:Nat):Bool:=(ms.getD j 0).testBit i
def Oi (xs:List Ao) (f:Nat->Ao->Nat->Ao->Bool):Bool:=
 (List.range xs.length).all fun j=>(List.range j).all fun i=>match xs[i]?,xs[j]? with|some x,some y=>f i x j y|_,_=>true
def MD (a b:List AP):List (AP × AP):=a.flatMap fun x=>b.map fun y=>(x,y)
def RH:Option AP->Option AP->Bool
 | some (.c (.int _ a)),some (.c (.int _ b))=>match a,b with
   |.ofNat m,.ofNat n=>Nat.beq m n
   |_,_=>false
 |some (.t a),some (.t b)=>Nat.beq a b
 |_,_=>false
def eo (t:Nat) (w:Ao):Bool:=w.dst==some t&&w.guard.isNone&&(match w.ins with
 |.op (.Io _ _ _ _ hi mx)|.op (.Hw _ _ _ hi mx)=>RH hi mx
 |_=>false)
def QI (xs:List Ao) (j:Nat) (y:Ao):Bool:=match y.ins with
 |.op (.append _ _ _ (.t t) _)=>(List.range j).any fun l=>(match xs[l]? with|some w=>eo t w|none=>false)&&(List.range j).all fun m=>decide (m<=l)||(match xs[m]? with|some z=>!(z.dst==some t)|none=>false)
 |_=>false
def aN (xs:List Ao) (j:Nat) (y:Ao):List AP:=if QI xs j y then[]else y.MY
def clash (xs:List Ao) (i j:Nat) (x y:Ao):List (AP × AP):=MD (aN xs i x) y.DF++MD x.DF (aN xs j y)
def HV (x y:AP):Bool:=match x,y with
 |.t a,.t b=>a==b
 |_,_=>false
def MI (l:List (AP × AP)) (p:AP × AP):Bool:=l.any fun q=>HV q.1 p.1&&HV q.2 p.2

def Ao.XR (x:Ao):Bool:=match x.ins with|.op (.lookup _ _ _ _ _)=>true|_=>false
def J7 (xs:List Ao) (i j:Nat) (x y:Ao):Bool:=match x.ins,y.ins with
 | .op (.lookup kt z ok m k),.op (.Ez qf z' m' k')=>!ok&&Nat.beq kt qf&&d8 z z'&&HV m m'&&HV k k'&&decide (i<j)&&
   (List.range j).all fun l=>decide (l<i)||(match xs[l]? with|some w=>w.MY.isEmpty&&!w.OG&&!H9 w.dst (m.rd++k.rd)|none=>false)
 |_,_=>false

def ZQ (ops:Array Oper) (xs:List Ao) (ap:List (AP × AP)):Bool:=
 let ms:=masks ops xs.length
 (List.range xs.length).all (fun i=>(EI ops i).all (· <i))&&
 xs.all (fun x=>x.Ec&&x.DF.all QX)&&
 Oi xs (fun i x j y=>(ord ms i j||(!must x y&&((clash xs i j x y).all (MI ap)||J7 xs i j x y)))&&x.DF.all (fun o=>!H9 y.dst o.rd))&&
 xs.all (fun x=>x.DF.all fun o=>!H9 x.dst o.rd)

theorem JJ {xs:List Ao}{f:Nat->Ao->Nat->Ao->Bool}(h:Oi xs f=true) {i j:Nat}{x y:Ao}(hij:i<j) (hx:xs[i]? =some x) (hy:xs[j]? =some y):f i x j y=true:=by
 unfold Oi at h
 rw[List.all_eq_true]at h
 have hj:j<xs.length:=(List.getElem?_eq_some_iff.1 hy).1
 have:=h j (by simpa using hj)
 rw[List.all_eq_true]at this
 have:=this i (by simpa using hij)
 rw[hx,hy]at this
 exact this

end AE

/- The text's order, as_ a trace. -/
namespace AE
open Go

inductive Fx (P:Program) (lo base i:Nat) (x:Ao):Ts × H->Option (Nat × A9)->Ts × H->Prop
 |skip (ts:Ts) (h:H):BF ts x.guard=false->Fx P lo base i x (ts,h) none (EY ts undef x.dst,h)
 |op (ts:Ts) (h:H) (ao:Bn) (v:Value) (u:Option (Nat × A9)):BF ts x.guard=true->x.ins= .op ao->
  (∀r row,u=some (r,row)->(r=base+i\/(lo<=r/\r∈ao.wr ts/\h.get r≠none)))->
  (∀g:H,(∀r∈ao.touch ts,h.get r≠none->g.get r=h.get r)->BZ P lo (base+i) ts g ao=some (v,g.upd u))->
  Fx P lo base i x (ts,h) u (EY ts v x.dst,h.upd u)
 |call (ts:Ts) (h:H) (f:AP) (args:List AP) (v:Value) (h':H):BF ts x.guard=true->x.ins= .call f args->
  Eg P (ev ts f) h.next h (args.map (ev ts)) v h'->Fx P lo base i x (ts,h) none (EY ts v x.dst,h')

theorem GY {P:Program}{lo base:Nat}{K:Ts->H->Prop}:∀(xs:List Ao) (i:Nat) (ts:Ts) (h:H),(∀x∈xs,x.Ec=true)->Run P lo true base i xs K ts h->
 ∃(S:Nat->Ts × H) (U:Nat->Option (Nat × A9)),S 0=(ts,h)/\(∀j x,xs[j]? =some x->Fx P lo base (i+j) x (S j) (U j) (S (j+1)))/\K (S xs.length).1 (S xs.length).2
 |[],i,ts,h,_,hr=>⟨fun _=>(ts,h),fun _=>none,rfl,by simp,hr⟩
 | x ::xs,i,ts,h,hns,hr=>by
   have mk:∀(u:Option (Nat × A9)) (s:Ts × H),Fx P lo base i x (ts,h) u s->Run P lo true base (i+1) xs K s.1 s.2->
    ∃(S:Nat->Ts × H) (U:Nat->Option (Nat × A9)),S 0=(ts,h)/\(∀j y,(x::xs)[j]? =some y->Fx P lo base (i+j) y (S j) (U j) (S (j+1)))/\K (S (x::xs).length).1 (S (x::xs).length).2:=by
    intro u s hs hr
    obtain⟨S,U,h0,hstep,hK⟩:=GY xs (i+1) s.1 s.2 (fun y hy=>hns y (List.mem_cons_of_mem _ hy)) hr
    refine⟨fun j=>match j with|0=>(ts,h)|j+1=>S j,fun j=>match j with|0=>u|j+1=>U j,rfl,fun j y hy=>?_,hK⟩
    cases j with
    | zero=>
      simp at hy;subst hy
      simp only[Nat.add_zero,h0]
      exact hs
    | succ j=>
      have:=hstep j y (by simpa using hy)
      rw[show i+(j+1)=i+1+j by omega]
      exact this
   simp only[Run]at hr
   split at hr
   ·rename_i hw
    split at hr
    ·rename_i ao hins
     obtain⟨v,h',ha,hr⟩:=hr
     have hne:ao.O8=true:=Bn.YM (by have:=hns x List.mem_cons_self;rw[Ao.Ec,hins]at this;exact this)
     obtain⟨u,rfl,h2,h3⟩:=PR hne ha
     exact mk u _ (.op ts h ao v u hw hins h2 h3) hr
    ·rename_i f args hins
     obtain⟨v,h',hcall,hr⟩:=hr
     exact mk none _ (.call ts h f args v h' hw hins (by simpa using hcall)) hr
   ·rename_i hw
    exact mk none _ (.skip ts h (by simpa using hw)) hr

structure Text (P:Program) (lo base:Nat) (xs:List Ao) (S:Nat->Ts × H) (U:Nat->Option (Nat × A9)):Prop where
 step:∀i x,xs[i]? =some x->Fx P lo base i x (S i) (U i) (S (i+1))
 room:base+xs.length<=(S 0).2.next
 clean:∀r,(S 0).2.next<=r->(S 0).2.get r=none
 own:∀j,j<xs.length->(S 0).2.get (base+j)=none
 fW:lo<=base

def Wr (xs:List Ao) (S:Nat->Ts × H) (U:Nat->Option (Nat × A9)) (j r:Nat):Prop:=
 (∃row,U j=some (r,row))\/∃x,xs[j]? =some x/\x.OG=true/\BF (S j).1 x.guard=true/\(S j).2.next<=r
def Wt (xs:List Ao) (j t:Nat):Prop:=∃x,xs[j]? =some x/\x.dst=some t

section
variable {P:Program}{lo base:Nat}{xs:List Ao}{S:Nat->Ts × H}{U:Nat->Option (Nat × A9)}

theorem Text.at_ (T:Text P lo base xs S U) {i:Nat}(hi:i<xs.length):∃x,xs[i]? =some x/\Fx P lo base i x (S i) (U i) (S (i+1)):=
 ⟨xs[i],List.getElem?_eq_getElem hi,T.step i _ (List.getElem?_eq_getElem hi)⟩

theorem VX {ts:Ts}{v:Value}{d:Option Nat}{t:Nat}(h:d≠some t):EY ts v d t=ts t:=by
 cases d with
 |none=>rfl
 |some d=>simp only[EY,GL];rw[if_neg];rintro rfl;exact h rfl

theorem Text.tmp (T:Text P lo base xs S U) {t:Nat}:∀k,k<xs.length->¬Wt xs k t->(S (k+1)).1 t=(S k).1 t:=by
 intro k hk hw
 obtain⟨x,hx,hs⟩:=T.at_ hk
 have hd:x.dst≠some t:=fun e=>hw ⟨x,hx,e⟩
 generalize S k=a at hs
 generalize S (k+1)=b at hs
 generalize U k=u at hs
 cases hs<;>exact VX hd

theorem Text.heap (T:Text P lo base xs S U) {r:Nat}:∀k,k<xs.length->¬Wr xs S U k r->(S (k+1)).2.get r=(S k).2.get r:=by
 intro k hk hw
 obtain⟨x,hx,hs⟩:=T.at_ hk
 unfold Wr at hw
 generalize S k=a at hs hw
 generalize S (k+1)=b at hs
 generalize U k=u at hs hw
 cases hs with
 |skip ts h hg=>rfl
 | op ts h ao v u hg hins h2 h3=>
   cases u with
   |none=>rfl
   | some p=>
     simp only[H.upd,H.put]
     rw[if_neg]
     rintro rfl
     exact hw (.inl ⟨_,rfl⟩)
 | call ts h f args v h' hg hins hcall=>
   refine hcall.quiet.same r ?_
   rcases Nat.lt_or_ge r h.next with hlt|hge
   ·exact hlt
   ·exact absurd (.inr ⟨x,hx,by simp[Ao.OG,hins],hg,hge⟩) hw

theorem Fx.quiet {i:Nat}{x:Ao}{a b:Ts × H}{u:Option (Nat × A9)}(hs:Fx P lo base i x a u b) (hl:lo<=base) (hn:base+i<a.2.next):Quiet lo a.2 b.2:=by
 cases hs with
 |skip ts h hg=>exact Quiet.refl _ _
 |op ts h ao v u hg hins h2 h3=>exact LU (h3 h fun _ _ _=>rfl) (by omega) hn
 |call ts h f args v h' hg hins hcall=>exact hcall.quiet.mono (by simp only at hn;omega)

theorem Text.quiet (T:Text P lo base xs S U):∀k,k<=xs.length->Quiet lo (S 0).2 (S k).2
 |0,_=>Quiet.refl _ _
 | k+1,hk=>by
   have ih:=Text.quiet T k (by omega)
   obtain⟨x,hx,hs⟩:=T.at_ (i:=k) (by omega)
   exact ih.trans (hs.quiet T.fW (by have:=T.room;have:=ih.next;omega))

theorem Text.Vo (T:Text P lo base xs S U):∀d k,k+d<=xs.length->(S k).2.next<=(S (k+d)).2.next
 |0,_,_=>Nat.le_refl _
 | d+1,k,h=>by
   obtain⟨x,hx,hs⟩:=T.at_ (i:=k+d) (by omega)
   have:=hs.quiet T.fW (by have:=T.room;have:=(T.quiet (k+d) (by omega)).next;omega)
   exact Nat.le_trans (Text.Vo T d k (by omega)) this.next
theorem Text.Jj (T:Text P lo base xs S U) {k l:Nat}(h:k<=l) (hl:l<=xs.length):(S k).2.next<=(S l).2.next:=by
 have:=T.Vo (l - k) k (by omega)
 rwa [show k+(l - k)=l by omega]at this
theorem Text.room' (T:Text P lo base xs S U) {k:Nat}(hk:k<=xs.length):base+xs.length<=(S k).2.next:=Nat.le_trans T.room (T.quiet k hk).next
theorem Text.clean' (T:Text P lo base xs S U) {k:Nat}(hk:k<=xs.length):∀r,(S k).2.next<=r->(S k).2.get r=none:=(T.quiet k hk).clean T.clean

theorem Text.own' (T:Text P lo base xs S U) {j:Nat}(hj:j<xs.length):∀k,k<=j->(S k).2.get (base+j)=none
 |0,_=>T.own j hj
 | k + 1,hk=>by
   have ih:=Text.own' T hj k (by omega)
   rw[T.heap k (by omega) ?_]
   ·exact ih
   ·rintro(⟨row,hu⟩|⟨x,hx,hc, -,hn⟩)
    ·obtain⟨x,hx,hs⟩:=T.at_ (i:=k) (by omega)
     rw[hu]at hs
     generalize S k=a at hs ih
     generalize S (k+1)=b at hs
     cases hs with
     | op ts h ao v u hg hins h2 h3=>
       rcases h2 _ _ rfl with e|e
       ·omega
       ·exact e.2.2 ih
    ·have:=T.room' (k:=k) (by omega)
     omega

end
end AE

/- Regions that draw their order: whatever the order, the text's outcome. -/
namespace AE
open Go Go.RowKit

theorem eW (w:Nat->Prop) (m:Nat):ver w m<=m:=by
 rcases GU w m with⟨h, -⟩|⟨j,h1,h2, -⟩<;>omega

section
variable {P:Program}{ro:Option Nat}{n lo base:Nat}{ops:Array Oper}{xs:List Ao}{ap:List (AP × AP)}{S:Nat->Ts × H}{U:Nat->Option (Nat × A9)}

noncomputable def FN (xs:List Ao) (S:Nat->Ts × H) (L:Nat->Prop):Ts:=fun t=>(S (ver (fun j=>L j/\Wt xs j t) xs.length)).1 t
noncomputable def DO (xs:List Ao) (S:Nat->Ts × H) (U:Nat->Option (Nat × A9)) (L:Nat->Prop):H:=
 ⟨fun r=>(S (ver (fun j=>L j/\Wr xs S U j r) xs.length)).2.get r,(S xs.length).2.next⟩

structure Inv (n lo base:Nat) (ops:Array Oper) (xs:List Ao) (S:Nat->Ts × H) (U:Nat->Option (Nat × A9)) (I0:Al) (w0:World) (a0:Act) (L:Nat->Prop) (I:Al) (w:World) (a:Act):Prop where
 lt:∀i,L i->i<xs.length
 down:∀i,L i->∀e∈EI ops i,L e
 ts:Bv I n (FN xs S L) a.tmps
 rel:Rel I (DO xs S U L) w
 own:∀j,j<xs.length->I.dom (base+j)->L j
 calls:∀(j:Nat) (x:Ao),xs[j]? =some x->x.OG=true->¬L j->∀r,I.dom r->r<(S j).2.next
 wrt:∀j r row,L j->U j=some (r,row)->r≠base+j->I.dom r
 grows:BA I0 I w0
 dom:∀r,I.dom r->I0.dom r\/base<=r
 old:∀r s p,r<lo->I.at_ r s=some p->I0.at_ r s=some p
 ext:Ext I0 lo w0 w
 defers:a.defers=a0.defers

structure Rk (ops:Array Oper) (xs:List Ao) (ap:List (AP × AP)):Prop where
 lt:∀k e,e∈EI ops k->k<xs.length->e<k
 Ec:∀(i:Nat) (x:Ao),xs[i]? =some x->x.Ec=true
 const:∀(i:Nat) (x:Ao),xs[i]? =some x->∀o∈x.DF,QX o=true
 pair:∀(i j:Nat) (x y:Ao),i<j->xs[i]? =some x->xs[j]? =some y->ord (masks ops xs.length) i j=true\/(must x y=false/\((∀p∈clash xs i j x y,MI ap p=true)\/J7 xs i j x y=true))
 keep:∀(i j:Nat) (x y:Ao),i<=j->xs[i]? =some x->xs[j]? =some y->∀o∈x.DF,H9 y.dst o.rd=false

theorem KR (h:ZQ ops xs ap=true):Rk ops xs ap:=by
 simp only[ZQ,Bool.and_eq_true]at h
 obtain⟨⟨⟨h1,h2⟩,h3⟩,h4⟩:=h
 refine⟨fun k e he hk=>?_,fun i x hx=>?_,fun i x hx o ho=>?_,fun i j x y hij hx hy=>?_,fun i j x y hij hx hy o ho=>?_⟩
 ·have:=List.all_eq_true.1 h1 k (by simpa using hk)
  simpa using List.all_eq_true.1 this e he
 ·have:=List.all_eq_true.1 h2 x (List.mem_of_getElem? hx)
  simp only[Bool.and_eq_true]at this
  exact this.1
 ·have:=List.all_eq_true.1 h2 x (List.mem_of_getElem? hx)
  simp only[Bool.and_eq_true]at this
  exact List.all_eq_true.1 this.2 o ho
 ·have:=JJ h3 hij hx hy
  simp only[Bool.and_eq_true,Bool.or_eq_true,Bool.not_eq_true']at this
  exact this.1.imp id (fun e=>⟨e.1,e.2.imp (fun e p hp=>List.all_eq_true.1 e p hp) id⟩)
 ·rcases Nat.lt_or_eq_of_le hij with hlt|rfl
  ·have:=JJ h3 hlt hx hy
   simp only[Bool.and_eq_true]at this
   simpa using List.all_eq_true.1 this.2 o ho
  ·rw[hx]at hy;simp at hy;subst hy
   have:=List.all_eq_true.1 h4 x (List.mem_of_getElem? hx)
   simpa using List.all_eq_true.1 this o ho

theorem dw {k e:Nat}(hlen:xs.length=ops.size) (he:e∈EI ops k):k<xs.length:=by
 unfold EI at he
 split at he
 ·rename_i o ho;rw[hlen];exact(Array.getElem?_eq_some_iff.1 ho).1
 ·simp at he

structure Tq (ops:Array Oper) (xs:List Ao) (L:Nat->Prop) (i:Nat) (x:Ao):Prop where
 at_:xs[i]? =some x
 not:¬L i
 EI:∀e∈EI ops i,L e

variable {I0 I:Al}{w0 w:World}{a0 a:Act}{L:Nat->Prop}{i:Nat}{x:Ao}

theorem Ve (D:Rk ops xs ap) (hlen:xs.length=ops.size) (V:Inv n lo base ops xs S U I0 w0 a0 L I w a) (R:Tq ops xs L i x) {j:Nat}(hj:j<xs.length):
 (ord (masks ops xs.length) j i=true->L j)/\(ord (masks ops xs.length) i j=true->¬L j):=by
 have hi:i<xs.length:=(List.getElem?_eq_some_iff.1 R.at_).1
 have lt:∀k e,e∈EI ops k->e<k:=fun k e he=>D.lt k e he (dw hlen he)
 constructor
 ·intro h
  unfold ord at h
  rw[FQ ops _ _ hi]at h
  exact(HD V.down lt i R.EI j h).1
 ·intro h hL
  unfold ord at h
  rw[FQ ops _ _ hj]at h
  exact R.not (HD V.down lt j (V.down j hL) i h).1

theorem MC (D:Rk ops xs ap) (hlen:xs.length=ops.size) (V:Inv n lo base ops xs S U I0 w0 a0 L I w a) (R:Tq ops xs L i x) {j:Nat}{y:Ao}(hy:xs[j]? =some y) (hji:j≠i)
 (hm:if j<i then must y x=true else must x y=true):L j↔j<i:=by
 have hj:j<xs.length:=(List.getElem?_eq_some_iff.1 hy).1
 obtain⟨o1,o2⟩:=Ve D hlen V R hj
 by_cases hlt:j<i
 ·rw[if_pos hlt]at hm
  rcases D.pair j i y x hlt hy R.at_ with h|h
  ·exact⟨fun _=>hlt,fun _=>o1 h⟩
  ·rw[hm]at h;simp at h
 ·rw[if_neg hlt]at hm
  rcases D.pair i j x y (by omega) R.at_ hy with h|h
  ·exact⟨fun hL=>absurd hL (o2 h),fun e=>absurd e hlt⟩
  ·rw[hm]at h;simp at h

theorem PD {d t:Nat}{l:List Nat}(hd:d∈l) (h:t=d):H9 (some t) l=true:=by subst h;simpa[H9]using hd

theorem MO (D:Rk ops xs ap) (hlen:xs.length=ops.size) (T:Text P lo base xs S U) (V:Inv n lo base ops xs S U I0 w0 a0 L I w a) (R:Tq ops xs L i x) {t:Nat}(ht:t∈x.rd):FN xs S L t=(S i).1 t:=by
 have hi:i<xs.length:=(List.getElem?_eq_some_iff.1 R.at_).1
 refine FV (F:=fun k=>(S k).1 t) (W:=fun j=>Wt xs j t) (T.tmp (t:=t)) (by omega) ?_
 rintro j hj ⟨y,hy,hd⟩
 by_cases hji:j=i
 ·subst hji
  exact⟨fun h=>absurd h R.not,fun h=>by omega⟩
 ·refine MC D hlen V R hy hji ?_
  split
  ·simp[must,hd,PD ht rfl]
  ·simp[must,hd,PD ht rfl]

theorem Wn {v:Value}(hv:In I v) {r:Nat}(hr:r∈Ap v):I.dom r:=by
 unfold Ap at hr
 split at hr
 ·simp at hr;subst hr;simp only[In]at hv;exact AQ hv
 ·split at hr
  ·simp at hr
  ·rename_i hf
   simp at hr;subst hr;rw[B8 (Nat.not_le.1 hf)]at hv;exact AQ hv.1
 ·simp at hr;subst hr;simp only[In]at hv;obtain⟨b,hb⟩:=hv;exact⟨_,_,hb⟩
 ·simp at hr

theorem Ux {v:Value}(h:flat v=true):Ap v=[]:=by
 unfold Ap
 split
 ·simp[flat]at h
 ·simp[flat]at h
 ·simp[flat]at h
 ·rfl

theorem RU {ao:Bn}(hins:x.ins= .op ao) {t:Nat}(ht:t∈ao.rd):t∈x.rd:=by
 simp[Ao.rd,hins,ht]
theorem JN {ao:Bn}(hins:x.ins= .op ao):x.DF=ao.DF/\x.MY=ao.MY:=by simp[Ao.DF,Ao.MY,hins]

theorem P0 (D:Rk ops xs ap) (hlen:xs.length=ops.size) (T:Text P lo base xs S U) (V:Inv n lo base ops xs S U I0 w0 a0 L I w a) (R:Tq ops xs L i x) {ao:Bn}(hins:x.ins= .op ao) {r:Nat}(hr:r∈ao.touch (S i).1):I.dom r:=by
 rw[JM,Du,List.mem_flatMap]at hr
 obtain⟨o,ho,hr⟩:=hr
 have ho':o∈x.DF:=by rw[(JN hins).1];exact ho
 cases o with
 | c v=>
   have:=D.const i x R.at_ _ ho'
   simp only[QX]at this
   simp only[ev,Ux this]at hr
   simp at hr
 |m k nm=>simp[ev,Ap]at hr
 | t k=>
   have hk:FN xs S L k=(S i).1 k:=MO D hlen T V R (RU hins (bC ho k (by simp[AP.rd])))
   simp only[ev]at hr
   rw[<-hk]at hr
   exact Wn (V.ts.2 k).2 hr

theorem SS (D:Rk ops xs ap) (T:Text P lo base xs S U) {j:Nat}{y:Ao}(hy:xs[j]? =some y) {o:AP}(ho:o∈y.DF):ev (S j).1 o=ev (S xs.length).1 o:=by
 have hj:j<xs.length:=(List.getElem?_eq_some_iff.1 hy).1
 cases o with
 |c v=>rfl
 | m k nm=>
   have:=stays (F:=fun l=>(S l).1 k) (W:=fun l=>Wt xs l k) (m:=xs.length) (T.tmp (t:=k)) (a:=j) (xs.length - j) (by omega) (fun l h1 h2=>?_)
   ·rw[show j+(xs.length - j)=xs.length by omega]at this
    simp only[ev,this]
   ·rintro⟨z,hz,hd⟩
    have:=D.keep j l y z h1 hy hz _ ho
    rw[hd]at this
    simp[H9,AP.rd]at this
 | t k=>
   have:=stays (F:=fun l=>(S l).1 k) (W:=fun l=>Wt xs l k) (m:=xs.length) (T.tmp (t:=k)) (a:=j) (xs.length - j) (by omega) (fun l h1 h2=>?_)
   ·rw[show j+(xs.length - j)=xs.length by omega]at this
    exact this.symm
   ·rintro⟨z,hz,hd⟩
    have:=D.keep j l y z h1 hy hz _ ho
    rw[hd]at this
    simp[H9,AP.rd]at this

theorem Kv {x y:AP}(h:HV x y=true):x=y:=by
 unfold HV at h
 split at h
 ·simp at h;subst h;rfl
 ·simp at h

theorem Tc (D:Rk ops xs ap) (T:Text P lo base xs S U) (hap:∀p∈ap,∀r∈Ap (ev (S xs.length).1 p.1),r∉Ap (ev (S xs.length).1 p.2)) {j k:Nat}{y z:Ao}(hy:xs[j]? =some y) (hz:xs[k]? =some z)
 (hc:∀p∈clash xs j k y z,MI ap p=true) {r:Nat} (h:(r∈Du (S j).1 (aN xs j y)/\r∈Du (S k).1 z.DF)\/(r∈Du (S j).1 y.DF/\r∈Du (S k).1 (aN xs k z))) (hw:∀(j:Nat) (y:Ao) (o:AP),o∈aN xs j y->o∈y.DF):False:=by
 have key:∀o1 o2,o1∈y.DF->o2∈z.DF->(o1,o2)∈clash xs j k y z->r∈Ap (ev (S j).1 o1)->r∈Ap (ev (S k).1 o2)->False:=by
  intro o1 o2 h1 h2 hm r1 r2
  have:=hc _ hm
  unfold MI at this
  rw[List.any_eq_true]at this
  obtain⟨q,hq,he⟩:=this
  simp only[Bool.and_eq_true]at he
  have e1:=Kv he.1
  have e2:=Kv he.2
  rw[SS D T hy h1,<-e1]at r1
  rw[SS D T hz h2,<-e2]at r2
  exact hap q hq r r1 r2
 rcases h with⟨h1,h2⟩|⟨h1,h2⟩<;>rw[Du,List.mem_flatMap]at h1 h2<;>obtain⟨o1,m1,h1⟩:=h1<;>obtain⟨o2,m2,h2⟩:=h2
 ·refine key o1 o2 (hw j y o1 m1) m2 ?_ h1 h2
  simp only[clash,MD,List.mem_append,List.mem_flatMap,List.mem_map]
  exact .inl ⟨o1,m1,o2,m2,rfl⟩
 ·refine key o1 o2 m1 (hw k z o2 m2) ?_ h1 h2
  simp only[clash,MD,List.mem_append,List.mem_flatMap,List.mem_map]
  exact .inr ⟨o1,m1,o2,m2,rfl⟩

theorem aU (y:Ao) (o:AP) (h:o∈y.MY):o∈y.DF:=by
 unfold Ao.MY at h
 unfold Ao.DF
 split at h
 ·exact Rt h
 ·simp at h

theorem U3 (j:Nat) (y:Ao) (o:AP) (h:o∈aN xs j y):o∈y.DF:=by
 unfold aN at h
 split at h
 ·simp at h
 ·exact aU y o h

theorem Rz {j:Nat}{y:Ao}{s s':Ts × H}{u:Option (Nat × A9)}(hs:Fx P lo base j y s u s') {r:Nat}{row:A9}(hu:u=some (r,row)):r=base+j\/(lo<=r/\r∈Du s.1 y.MY/\s.2.get r≠none):=by
 cases hs with
 |skip=>simp at hu
 |call=>simp at hu
 | op ts h ao v u hg hins h2 h3=>
   rcases h2 r row hu with e|e
   ·exact .inl e
   ·refine .inr ⟨e.1,?_,e.2.2⟩
    rw[(JN hins).2]
    exact U2 e.2.1

theorem RG {ts:Ts}{a b:Option AP}(h:RH a b=true):∃x y:AP,a=some x/\b=some y/\Cv (ev ts x)=Cv (ev ts y):=by
 unfold RH at h
 split at h
 ·split at h
  ·obtain rfl:=Nat.eq_of_beq_eq_true h
   exact⟨_,_,rfl,rfl,by simp[ev,Cv]⟩
  ·simp at h
 ·obtain rfl:=Nat.eq_of_beq_eq_true h
  exact⟨_,_,rfl,rfl,rfl⟩
 ·simp at h
theorem EL {c sz:Nat}{a:Addr}{lo hi:Option Nat}{v:Value}:(a.spot=none->De enc1 c sz a lo hi hi=some v->F9 v=true)/\((∃g,a.spot=some g)->De enc2 c sz a lo hi hi=some v->F9 v=true):=by
 have hs:∀l m,(CV a l m sz).spot=a.spot:=fun l m=>by unfold CV;split<;>rfl
 cases lo with
 |none=>exact⟨fun _ h=>by simp[De]at h,fun _ h=>by simp[De]at h⟩
 | some l=>cases hi with
   |none=>exact⟨fun _ h=>by simp[De]at h,fun _ h=>by simp[De]at h⟩
   | some m=>
     refine⟨fun h0 h=>?_,fun⟨g,h0⟩ h=>?_⟩
     all_goals
      simp only[De]at h
      split at h
      ·rename_i hc
       simp only[Option.some.injEq]at h
       subst h
       have hf:=hc.2.2.2
       simp only[F9,hs,h0,if_neg (Nat.not_le.2 hf)]
       exact Nat.beq_refl _
      ·simp at h
theorem TB {ts:Ts}{n sz:Nat}{x:AP}{lo hi mx:Option AP}{v:Value}(hh:RH hi mx=true) (h:Io n sz (IY ts lo) (IY ts hi) (IY ts mx) (ev ts x)=some v):F9 v=true:=by
 obtain⟨p,q,rfl,rfl,e⟩:=RG (ts:=ts) hh
 unfold Io at h
 split at h
 ·rename_i a ha
  simp only[IY,BP,Option.map_some]at h
  first
   | (rw[e]at h
      cases hsp:a.spot with
      |none=>rw[hsp]at h;exact(EL).1 hsp h
      |some g=>rw[hsp]at h;exact(EL).2 ⟨g,hsp⟩ h)
 ·simp at h
theorem Wy {ts:Ts}{sz:Nat}{x:AP}{lo hi mx:Option AP}{v:Value}(hh:RH hi mx=true) (h:Hw sz (IY ts lo) (IY ts hi) (IY ts mx) (ev ts x)=some v):F9 v=true\/Ap v=[]:=by
 obtain⟨p,q,rfl,rfl,e⟩:=RG (ts:=ts) hh
 unfold Hw at h
 split at h
 ·rename_i a len cap ha
  split at h
  ·split at h
   ·left
    unfold Yp at h
    split at h
    ·split at h
     ·simp only[Option.some.injEq]at h;subst h;simp[F9]
     ·simp at h
    ·simp at h
   ·simp at h
  ·left
   simp only[IY,BP,Option.map_some]at h
   split at h
   ·rename_i hsp
    rw[e]at h
    exact(EL).1 hsp h
   ·rename_i g hsp
    unfold Qa at h
    simp only[BP]at h
    split at h
    ·rw[e]at h;exact(EL).2 ⟨g,hsp⟩ h
    ·rw[e]at h;exact(EL).2 ⟨g,hsp⟩ h
 ·right
  unfold U7 at h
  split at h
  ·split at h
   ·simp only[Option.some.injEq]at h;subst h;rfl
   ·simp at h
  ·simp at h
 ·simp at h
theorem cO (T:Text P lo base xs S U) {j:Nat}{y:Ao}(hj:j<xs.length) (hf:QI xs j y=true) {ao:Bn}(hins:y.ins= .op ao):ao.wr (S j).1=[]:=by
 unfold QI at hf
 split at hf
 ·rename_i e sz b t x hy
  rw[hins]at hy
  simp only[LX.op.injEq]at hy
  subst hy
  obtain⟨l,hl,hf⟩:=List.any_eq_true.1 hf
  simp only[Bool.and_eq_true]at hf
  obtain⟨hw,hall⟩:=hf
  have hl:l<j:=by simpa using hl
  split at hw
  ·rename_i w hwl
   unfold eo at hw
   simp only[Bool.and_eq_true,beq_iff_eq,Option.isNone_iff_eq_none]at hw
   obtain⟨⟨hd,hg⟩,hk⟩:=hw
   have hs:=T.step l w hwl
   have stay:(S j).1 t=(S (l+1)).1 t:=by
    have key:∀d,l+1+d<=j->(S (l+1+d)).1 t=(S (l+1)).1 t:=by
     intro d
     induction d with
     |zero=>intro _;rfl
     | succ d ih=>
       intro hle
       rw[<-ih (by omega)]
       refine T.tmp (t:=t) (l+1+d) (by omega) ?_
       rintro⟨z,hz,hzd⟩
       have:=List.all_eq_true.1 hall (l+1+d) (by simp;omega)
       rw[hz]at this
       simp only[Bool.or_eq_true,decide_eq_true_eq,hzd,beq_self_eq_true,Bool.not_true,Bool.false_eq_true,or_false]at this
       omega
    have:=key (j - (l+1)) (by omega)
    rwa [show l+1+(j - (l+1))=j by omega]at this
   have val:F9 ((S (l+1)).1 t)=true\/Ap ((S (l+1)).1 t)=[]:=by
    generalize S l=s at hs
    generalize hs':S (l+1)=s' at hs
    generalize U l=u0 at hs
    cases hs with
    |skip ts h hn=>rw[hg]at hn;simp[BF]at hn
    |call ts h f args v h' _ hi _=>rw[hi]at hk;simp at hk
    | op ts h ao v u _ hi _ h3=>
      have ha:=h3 h (fun _ _ _=>rfl)
      rw[hi]at hk
      have hput:EY ts v w.dst t=v:=by rw[hd];simp[EY,GL]
      simp only[hput]
      split at hk
      ·rename_i hi2
       simp only[LX.op.injEq]at hi2
       subst hi2
       simp only[BZ]at ha
       exact .inl (TB hk (Ar ha).1)
      ·rename_i hi2
       simp only[LX.op.injEq]at hi2
       subst hi2
       simp only[BZ]at ha
       exact Wy hk (Ar ha).1
      ·simp at hk
   simp only[Bn.wr,ev,stay]
   rcases val with h|h
   ·rw[if_pos h]
   ·rw[h];simp
  ·simp at hw
 ·simp at hf
theorem Wu (T:Text P lo base xs S U) {j:Nat}{y:Ao}(hj:j<xs.length) {s':Ts × H}{u:Option (Nat × A9)}(hs:Fx P lo base j y (S j) u s') {r:Nat}{row:A9}(hu:u=some (r,row)):r=base+j\/(lo<=r/\r∈Du (S j).1 (aN xs j y)/\(S j).2.get r≠none):=by
 rcases Rz hs hu with e|e
 ·exact .inl e
 ·by_cases hf:QI xs j y=true
  ·left
   generalize hsj:S j=s at hs
   cases hs with
   |skip=>simp at hu
   |call=>simp at hu
   | op ts h ao v u hg hins h2 h3=>
     rcases h2 r row hu with e|e
     ·exact e
     ·have:=cO T hj hf hins
      rw[hsj]at this
      simp only at this
      rw[this]at e
      simp at e
  ·right
   unfold aN
   rw[if_neg hf]
   exact e

theorem GI {i j:Nat}{x y:Ao}(h:J7 xs i j x y=true):∃kt z m k z',x.ins= .op (.lookup kt z false m k)/\y.ins= .op (.Ez kt z' m k)/\z=z'/\i<j/\∀l,i<=l->l<j->∃w,xs[l]? =some w/\w.MY=[]/\w.OG=false/\H9 w.dst (m.rd++k.rd)=false:=by
 unfold J7 at h
 split at h
 ·rename_i kt z ok m k qf z' m' k' hx hy
  simp only[Bool.and_eq_true,Bool.not_eq_true',decide_eq_true_eq]at h
  obtain⟨⟨⟨⟨⟨⟨h1,h2⟩,h3⟩,h4⟩,h5⟩,h6⟩,h7⟩:=h
  subst h1
  obtain rfl:=Nat.eq_of_beq_eq_true h2
  obtain rfl:=Kv h4
  obtain rfl:=Kv h5
  refine⟨kt,z,m,k,z',hx,hy,Uy h3,h6,fun l hl hj=>?_⟩
  have:=List.all_eq_true.1 h7 l (by simpa using hj)
  simp only[Bool.or_eq_true,decide_eq_true_eq]at this
  rcases this with h|h
  ·omega
  ·split at h
   ·rename_i w hw
    simp only[Bool.and_eq_true,Bool.not_eq_true',List.isEmpty_iff]at h
    exact⟨w,hw,h.1.1,h.1.2,h.2⟩
   ·simp at h
 ·simp at h

theorem Nn (D:Rk ops xs ap) (hlen:xs.length=ops.size) (T:Text P lo base xs S U) (V:Inv n lo base ops xs S U I0 w0 a0 L I w a) (R:Tq ops xs L i x)
 (hap:∀p∈ap,∀r∈Ap (ev (S xs.length).1 p.1),r∉Ap (ev (S xs.length).1 p.2)) {r:Nat} (hd:I.dom r) (hr:(S i).2.get r≠none) (hk:x.OG=true\/r∈Du (S i).1 x.DF):
 ∀j,j<xs.length->Wr xs S U j r->(L j↔j<i)\/∃y,xs[j]? =some y/\i<j/\J7 xs i j x y=true:=by
 have hi:i<xs.length:=(List.getElem?_eq_some_iff.1 R.at_).1
 intro j hj hw
 by_cases hji:j=i
 ·subst hji
  exact .inl ⟨fun h=>absurd h R.not,fun h=>by omega⟩
 rcases hw with⟨row,hu⟩|⟨y,hy,hc, -,hn⟩
 ·obtain⟨y,hy,hs⟩:=T.at_ hj
  rcases Wu T hj hs hu with e|⟨-,hwr, -⟩
  ·have hlt:j<i:=by
    rcases Nat.lt_or_ge j i with h|h
    ·exact h
    ·exact absurd (T.own' hj i h) (by rw[<-e];exact hr)
   exact .inl ⟨fun _=>hlt,fun _=>V.own j hj (e▸hd)⟩
  ·have hne:y.MY≠[]:=fun e=>by simp[aN,e,Du]at hwr
   rcases hk with hk|hk
   ·refine .inl (MC D hlen V R hy hji ?_)
    split<;>simp[must,hk,hne]
   ·obtain⟨o1,o2⟩:=Ve D hlen V R hj
    rcases Nat.lt_or_ge j i with hlt|hge
    ·rcases D.pair j i y x hlt hy R.at_ with h|h
     ·exact .inl ⟨fun _=>hlt,fun _=>o1 h⟩
     ·rcases h.2 with h|h
      ·exact(Tc D T hap hy R.at_ h (.inl ⟨hwr,hk⟩) U3).elim
      ·obtain⟨kt,z,m,k,z',hy', -⟩:=GI h
       exact absurd (by simp[Ao.MY,hy',Bn.MY]) hne
    ·rcases D.pair i j x y (by omega) R.at_ hy with h|h
     ·exact .inl ⟨fun hL=>absurd hL (o2 h),fun e=>by omega⟩
     ·rcases h.2 with h|h
      ·exact(Tc D T hap R.at_ hy h (.inr ⟨hk,hwr⟩) U3).elim
      ·exact .inr ⟨y,hy,by omega,h⟩
 ·have hlt:j<i:=by
   rcases Nat.lt_or_ge j i with h|h
   ·exact h
   ·exact absurd (T.clean' (k:=i) (by omega) r (Nat.le_trans (T.Jj h (by omega)) hn)) hr
  refine .inl ⟨fun _=>hlt,fun _=>?_⟩
  by_cases hL:L j
  ·exact hL
  ·have:=V.calls j y hy hc hL r hd
   omega
theorem Vd (D:Rk ops xs ap) (hlen:xs.length=ops.size) (T:Text P lo base xs S U) (V:Inv n lo base ops xs S U I0 w0 a0 L I w a) (R:Tq ops xs L i x) (hnl:x.XR=false)
 (hap:∀p∈ap,∀r∈Ap (ev (S xs.length).1 p.1),r∉Ap (ev (S xs.length).1 p.2)) {r:Nat} (hd:I.dom r) (hr:(S i).2.get r≠none) (hk:x.OG=true\/r∈Du (S i).1 x.DF):
 ∀j,j<xs.length->Wr xs S U j r->(L j↔j<i):=fun j hj hw=>(Nn D hlen T V R hap hd hr hk j hj hw).resolve_right fun⟨y,_,_,h⟩=>by
 obtain⟨kt,z,m,k,z',hx, -⟩:=GI h
 simp[Ao.XR,hx]at hnl

theorem ZR (D:Rk ops xs ap) (hlen:xs.length=ops.size) (T:Text P lo base xs S U) (V:Inv n lo base ops xs S U I0 w0 a0 L I w a) (R:Tq ops xs L i x)
 (hap:∀p∈ap,∀r∈Ap (ev (S xs.length).1 p.1),r∉Ap (ev (S xs.length).1 p.2)) {kt:TypeId} {z v:Value} {ok:Bool} {m k:AP} (hins:x.ins= .op (.lookup kt z ok m k))
 (hv:Cs P kt z ok (ev (S i).1 k) (S i).2 (ev (S i).1 m)=some v):Cs P kt z ok (ev (S i).1 k) (DO xs S U L) (ev (S i).1 m)=some v:=by
 have hi:i<xs.length:=(List.getElem?_eq_some_iff.1 R.at_).1
 have htd:=P0 D hlen T V R hins (r:=0)
 cases hm:ev (S i).1 m with
 | map b =>
   cases b with
   |none=>rw[hm]at hv;exact hv
   | some r =>
     have hd:I.dom r:=P0 D hlen T V R hins (by simp[Bn.touch,hm,Ap])
     have ht:r∈Du (S i).1 x.DF:=by simp[Ao.DF,hins,Bn.DF,Du,hm,Ap]
     rw[hm]at hv
     have hr:(S i).2.get r≠none:=fun e=>by simp[Cs,e]at hv
     by_cases hB:∃j y,j<xs.length/\L j/\Wr xs S U j r/\xs[j]? =some y/\J7 xs i j x y=true
     ·obtain⟨j,y,hj,hL,hW,hy,hb⟩:=hB
      obtain⟨qf,z1,m',k',z',hx',hy',hzz,hij,lB⟩:=GI hb
      rw[hins]at hx'
      simp only[LX.op.injEq,Bn.lookup.injEq]at hx'
      obtain⟨rfl,rfl,rfl,rfl,rfl⟩:=hx'
      subst hzz
      have cE:ver (fun j=>L j/\Wr xs S U j r) xs.length=j+1:=by
       refine Mz hj hW hL ?_
       intro l hl hjl hwl uT
       rcases Nn D hlen T V R hap hd hr (.inr ht) l hl hwl with h|⟨y2,hy2, -,h⟩
       ·have:=h.1 uT;omega
       ·obtain⟨_,_,_,_,_, -, -, -, -,hb2⟩:=GI h
        obtain⟨w2,hw2,e, -⟩:=hb2 j (by omega) hjl
        rw[hy]at hw2;simp at hw2;subst hw2
        simp[Ao.MY,hy',Bn.MY]at e
      have hsame:∀d,i+d<=j->(S (i+d)).2.get r=(S i).2.get r/\ev (S (i+d)).1 m=ev (S i).1 m/\ev (S (i+d)).1 k=ev (S i).1 k:=by
       intro d
       induction d with
       |zero=>intro _;exact⟨rfl,rfl,rfl⟩
       | succ d ih=>
         intro hd'
         obtain⟨i1,i2,i3⟩:=ih (by omega)
         obtain⟨w2,hw2,e1,e2,e3⟩:=lB (i+d) (by omega) (by omega)
         have hnw:¬Wr xs S U (i+d) r:=by
          rintro(⟨row,hu⟩|⟨y2,hy2,hc, -⟩)
          ·obtain⟨y2,hy2,hs⟩:=T.at_ (i:=i+d) (by omega)
           rw[hw2]at hy2;simp at hy2;subst hy2
           rcases Rz hs hu with e|⟨-,h, -⟩
           ·exact absurd (T.own' (j:=i+d) (by omega) i (by omega)) (by rw[<-e];exact hr)
           ·simp[e1,Du]at h
          ·rw[hw2]at hy2;simp at hy2;subst hy2
           rw[e2]at hc;simp at hc
         have hev:∀o:AP,(∀t∈o.rd,t∈m.rd++k.rd)->ev (S (i+(d+1))).1 o=ev (S (i+d)).1 o:=by
          intro o ho
          refine Ed fun t ht=>?_
          refine T.tmp (t:=t) (i+d) (by omega) ?_
          rintro⟨z2,hz2,hd2⟩
          rw[hw2]at hz2;simp at hz2;subst hz2
          rw[hd2]at e3
          have:=ho t ht
          simp only[H9]at e3
          rw[List.contains_eq_mem,decide_eq_false_iff_not]at e3
          exact e3 this
         exact⟨(T.heap (r:=r) (i+d) (by omega) hnw).trans i1,(hev m (fun t ht=>by simp[ht])).trans i2,(hev k (fun t ht=>by simp[ht])).trans i3⟩
      obtain⟨s1,s2,s3⟩:=hsame (j - i) (by omega)
      rw[show i+(j - i)=j by omega]at s1 s2 s3
      have hstep:=T.step j y hy
      have hcur:(DO xs S U L).get r=(S (j+1)).2.get r:=by simp only[DO,cE]
      have qJ:∃row,U j=some (r,row):=by
       rcases hW with h|⟨y2,hy2,hc, -⟩
       ·exact h
       ·rw[hy]at hy2;simp at hy2;subst hy2
        simp[Ao.OG,hy']at hc
      obtain⟨row0,qJ⟩:=qJ
      generalize ha:S j=s at hstep
      generalize hb':S (j+1)=s' at hstep
      rw[qJ]at hstep
      cases hstep with
      | op ts h ao v' _ hg ET h2 h3=>
        rw[hy']at ET
        simp only[LX.op.injEq]at ET
        subst ET
        have ha1:(S j).1=ts:=by rw[ha]
        have ha2:(S j).2=h:=by rw[ha]
        have hop:=h3 h fun _ _ _=>rfl
        rw[ha1]at s2 s3
        simp only[BZ,s2,s3,hm]at hop
        rw[ha2]at s1
        have cG:Cs P kt z false (ev (S i).1 k) h (.map (some r))=some v:=by
         simp only[Cs]at hv⊢
         rw[s1];exact hv
        cases hrow:h.get r with
        |none=>rw[s1]at hrow;exact absurd hrow hr
        | some row=>
          cases row with
          | map es c=>
            obtain⟨oH,e1,e2⟩:=YY hrow cG hop
            refine e2 _ ?_
            rw[hcur,hb']
            show(h.upd (some (r,row0))).get r=some oH
            rw[e1];simp[H.put]
          |_=>simp[Cs,hrow]at cG
     ·have hgr:(DO xs S U L).get r=(S i).2.get r:=by
       refine FV (F:=fun k=>(S k).2.get r) (W:=fun j=>Wr xs S U j r) (T.heap (r:=r)) (by omega) fun j hj hw=>?_
       rcases Nn D hlen T V R hap hd hr (.inr ht) j hj hw with h|⟨y,hy,hij,h⟩
       ·exact h
       ·exact⟨fun hL=>absurd ⟨j,y,hj,hL,hw,hy,h⟩ hB,fun e=>by omega⟩
      simp only[Cs]at hv⊢
      rw[hgr];exact hv
 |_=>rw[hm]at hv;simp[Cs]at hv

theorem VS (D:Rk ops xs ap) (hlen:xs.length=ops.size) (T:Text P lo base xs S U) (V:Inv n lo base ops xs S U I0 w0 a0 L I w a) (R:Tq ops xs L i x) (hnl:x.XR=false)
 (hap:∀p∈ap,∀r∈Ap (ev (S xs.length).1 p.1),r∉Ap (ev (S xs.length).1 p.2)) {r:Nat} (hd:I.dom r) (hr:(S i).2.get r≠none) (hk:x.OG=true\/r∈Du (S i).1 x.DF):
 (DO xs S U L).get r=(S i).2.get r:=by
 have hi:i<xs.length:=(List.getElem?_eq_some_iff.1 R.at_).1
 exact FV (F:=fun k=>(S k).2.get r) (W:=fun j=>Wr xs S U j r) (T.heap (r:=r)) (by omega) (Vd D hlen T V R hnl hap hd hr hk)

def L1 (L:Nat->Prop) (i:Nat):Nat->Prop:=fun j=>L j\/j=i

theorem PS {j:Nat}(h:j≠i):L1 L i j↔L j:=by simp[L1,h]

theorem VT (D:Rk ops xs ap) (hlen:xs.length=ops.size) (V:Inv n lo base ops xs S U I0 w0 a0 L I w a) (R:Tq ops xs L i x) {v:Value}(hv:(S (i+1)).1=EY (S i).1 v x.dst):
 FN xs S (L1 L i)=EY (FN xs S L) v x.dst:=by
 have hi:i<xs.length:=(List.getElem?_eq_some_iff.1 R.at_).1
 funext t
 by_cases hd:x.dst=some t
 ·have h1:ver (fun j=>L1 L i j/\Wt xs j t) xs.length=i+1:=by
   refine Mz hi ⟨x,R.at_,hd⟩ (.inr rfl) ?_
   rintro j hj hij ⟨y,hy,hdy⟩ hL
   have hL:=(PS (i:=i) (by omega)).1 hL
   have:=(MC D hlen V R hy (by omega) (by rw[if_neg (by omega)];simp[must,hd,hdy])).1 hL
   omega
  simp only[FN,h1,hv,hd,EY,GL,if_true]
 ·have h1:ver (fun j=>L1 L i j/\Wt xs j t) xs.length=ver (fun j=>L j/\Wt xs j t) xs.length:=by
   refine M0 (i:=i) (W:=fun j=>Wt xs j t) ?_ (fun j hj=>PS hj)
   rintro⟨y,hy,hdy⟩
   rw[R.at_]at hy;simp at hy;subst hy
   exact hd hdy
  rw[VX hd]
  simp only[FN,h1]

theorem H.ext' {h g:H}(h1:∀r,h.get r=g.get r) (h2:h.next=g.next):h=g:=by
 cases h;cases g;simp only at h1 h2;subst h2;congr;funext r;exact h1 r

theorem cX (D:Rk ops xs ap) (hlen:xs.length=ops.size) (T:Text P lo base xs S U) (V:Inv n lo base ops xs S U I0 w0 a0 L I w a) (R:Tq ops xs L i x)
 (hap:∀p∈ap,∀r∈Ap (ev (S xs.length).1 p.1),r∉Ap (ev (S xs.length).1 p.2)) {u:Option (Nat × A9)} (hU:U i=u) (hS:(S (i+1)).2=(S i).2.upd u)
 (hnc:x.OG=true->BF (S i).1 x.guard=false)
 (hnl:x.XR=true->u=none)
 (h2:∀r row,u=some (r,row)->r=base+i\/(I.dom r/\r∈Du (S i).1 x.DF/\(S i).2.get r≠none)):DO xs S U (L1 L i)=(DO xs S U L).upd u:=by
 have hi:i<xs.length:=(List.getElem?_eq_some_iff.1 R.at_).1
 refine H.ext' (fun r=>?_) (by rw[Il];rfl)
 by_cases hw:∃row,u=some (r,row)
 ·obtain⟨row,rfl⟩:=hw
  have h1:ver (fun j=>L1 L i j/\Wr xs S U j r) xs.length=i+1:=by
   refine Mz hi (.inl ⟨row,hU⟩) (.inr rfl) ?_
   intro j hj hij nP hL
   have hL:=(PS (i:=i) (by omega)).1 hL
   rcases h2 r row rfl with e|⟨hd,ht,hr⟩
   ·rcases nP with⟨row',hu'⟩|⟨y,hy,hc, -,hn⟩
    ·exact R.not (V.own i hi (e▸V.wrt j r row' hL hu' (by omega)))
    ·have:=T.room' (k:=j) (by omega)
     omega
   ·have qy:x.XR=false:=by
     cases hq:x.XR with
     |false=>rfl
     |true=>exact absurd (hnl hq) (by simp)
    have:=(Vd D hlen T V R qy hap hd hr (.inr ht) j hj nP).1 hL
    omega
  simp only[DO,h1,hS,H.upd,H.put,if_true]
 ·have h1:ver (fun j=>L1 L i j/\Wr xs S U j r) xs.length=ver (fun j=>L j/\Wr xs S U j r) xs.length:=by
   refine M0 (i:=i) (W:=fun j=>Wr xs S U j r) ?_ (fun j hj=>PS hj)
   rintro(⟨row,hu⟩|⟨y,hy,hc,hg,hn⟩)
   ·exact hw ⟨row,hU▸hu⟩
   ·rw[R.at_]at hy;simp at hy;subst hy
    rw[hnc hc]at hg;simp at hg
  have h3:((DO xs S U L).upd u).get r=(DO xs S U L).get r:=by
   cases u with
   |none=>rfl
   | some p=>
     simp only[H.upd,H.put]
     rw[if_neg]
     rintro rfl
     exact hw ⟨_,rfl⟩
  rw[h3]
  simp only[DO,h1]

theorem Zp (D:Rk ops xs ap) (hlen:xs.length=ops.size) (T:Text P lo base xs S U) (V:Inv n lo base ops xs S U I0 w0 a0 L I w a) (R:Tq ops xs L i x)
 (hap:∀p∈ap,∀r∈Ap (ev (S xs.length).1 p.1),r∉Ap (ev (S xs.length).1 p.2)) {u:Option (Nat × A9)} {v:Value} (hU:U i=u) (hS:(S (i+1)).2=(S i).2.upd u) (hS1:(S (i+1)).1=EY (S i).1 v x.dst)
 (hnc:x.OG=true->BF (S i).1 x.guard=false) (hnl:x.XR=true->u=none)
 (h2:∀r row,u=some (r,row)->r=base+i\/(I.dom r/\r∈Du (S i).1 x.DF/\(S i).2.get r≠none))
 {J:Al} {w1:World} (hg:BA I J w) (hdom:∀r,J.dom r->I.dom r\/r=base+i) (hold:∀r s p,r<lo->J.at_ r s=some p->I.at_ r s=some p) (hrel:Rel J ((DO xs S U L).upd u) w1) (hin:In J v) (hext:Ext I lo w w1) (hdst:IZ n x.dst=true):
 Inv n lo base ops xs S U I0 w0 a0 (L1 L i) J w1 (a.put x.dst (ren J v)):=by
 have hi:i<xs.length:=(List.getElem?_eq_some_iff.1 R.at_).1
 refine⟨?_,?_,?_,?_,?_,?_,?_,V.grows.trans hg V.ext.size,?_,fun r s p hr e=>V.old r s p hr (hold r s p hr e),V.ext.trans V.grows hext,?_⟩
 ·rintro j (h|rfl)
  ·exact V.lt j h
  ·exact hi
 ·rintro j (h|rfl) e he
  ·exact .inl (V.down j h e he)
  ·exact .inl (R.EI e he)
 ·rw[VT D hlen V R hS1]
  exact(V.ts.le hg.le).put hin hdst
 ·rw[cX D hlen T V R hap hU hS hnc hnl h2]
  exact hrel
 ·intro j hj d
  rcases hdom _ d with d|d
  ·exact .inl (V.own j hj d)
  ·exact .inr (by omega)
 ·intro j y hy hc hL r d
  rcases hdom _ d with d|d
  ·exact V.calls j y hy hc (fun h=>hL (.inl h)) r d
  ·have:=T.room' (k:=j) (Nat.le_of_lt (List.getElem?_eq_some_iff.1 hy).1)
   omega
 ·rintro j r row (h|rfl) hu hne
  ·exact hg.le.dom (V.wrt j r row h hu hne)
  ·rw[hU]at hu
   rcases h2 r row hu with e|e
   ·exact absurd e hne
   ·exact hg.le.dom e.1
 ·intro r d
  rcases hdom r d with d|d
  ·exact V.dom r d
  ·exact .inr (by omega)
 ·rw[Act.Cd];exact V.defers

theorem Zq (D:Rk ops xs ap) (hlen:xs.length=ops.size) (T:Text P lo base xs S U) (V:Inv n lo base ops xs S U I0 w0 a0 L I w a) (R:Tq ops xs L i x)
 {v:Value} (hU:U i=none) (hS1:(S (i+1)).1=EY (S i).1 v x.dst) (hc:x.OG=true) (hgd:BF (S i).1 x.guard=true) {J:Al} {w1:World} (W:BR I J (S i).2.next (S i).2.next (S (i+1)).2 w w1) (hin:In J v) (hdst:IZ n x.dst=true):
 Inv n lo base ops xs S U I0 w0 a0 (L1 L i) J w1 (a.put x.dst (ren J v)):=by
 have hi:i<xs.length:=(List.getElem?_eq_some_iff.1 R.at_).1
 have hroom:=T.room' (k:=i) (by omega)
 have qA:=T.fW
 have Zz:∀j y,xs[j]? =some y->y.OG=true->j≠i->(L j↔j<i):=fun j y hy hcy hji=>MC D hlen V R hy hji (by split<;>simp[must,hc,hcy])
 refine⟨?_,?_,?_,⟨?_,?_,W.rel.size,W.rel.base,W.rel.tabs,W.rel.inj,?_⟩,?_,?_,?_,V.grows.trans W.grows V.ext.size,?_,?_,V.ext.trans V.grows (W.ext.mono (by omega)),?_⟩
 ·rintro j (h|rfl)
  ·exact V.lt j h
  ·exact hi
 ·rintro j (h|rfl) e he
  ·exact .inl (V.down j h e he)
  ·exact .inl (R.EI e he)
 ·rw[VT D hlen V R hS1]
  exact(V.ts.le W.grows.le).put hin hdst
 ·intro r row hr d
  rcases Nat.lt_or_ge r (S i).2.next with hlt|hge
  ·have d':I.dom r:=(W.dom r d).resolve_right (by omega)
   have h1:ver (fun j=>L1 L i j/\Wr xs S U j r) xs.length=ver (fun j=>L j/\Wr xs S U j r) xs.length:=by
    refine M0 (i:=i) (W:=fun j=>Wr xs S U j r) ?_ (fun j hj=>PS hj)
    rintro(⟨row,hu⟩|⟨y,hy, -, -,hn⟩)
    ·rw[hU]at hu;simp at hu
    ·omega
   simp only[DO,h1]at hr
   refine(V.rel.rows r row hr d').le W.grows.le (fun s p e=>W.old r s p hlt e) (fun b ⟨s0,d0,hb⟩=>?_)
   refine W.ext.block b (V.rel.size _ _ _ _ hb) (fun r' s' d1 hb' hbase=>?_)
   rw[V.rel.inj _ _ _ _ _ _ _ hb' hb hbase]
   exact hlt
  ·have h1:ver (fun j=>L1 L i j/\Wr xs S U j r) xs.length=i+1:=by
    refine Mz hi (.inr ⟨x,R.at_,hc,hgd,hge⟩) (.inr rfl) ?_
    intro j hj hij nP hL
    have hL:=(PS (i:=i) (by omega)).1 hL
    rcases nP with⟨row',hu'⟩|⟨y,hy,hcy, -,hn⟩
    ·have:=V.calls i x R.at_ hc R.not r (V.wrt j r row' hL hu' (by omega))
     omega
    ·have:=(Zz j y hy hcy (by omega)).1 hL
     omega
   simp only[DO,h1]at hr
   exact W.rel.rows r row hr d
 ·intro r d
  have h1:=W.rel.lt r d
  have h2:=T.Jj (k:=i+1) (l:=xs.length) (by omega) (Nat.le_refl _)
  simp only[DO]
  omega
 ·intro r hr
  simp only[DO]at hr⊢
  have:=eW (fun j=>L1 L i j/\Wr xs S U j r) xs.length
  exact T.clean' this r (Nat.le_trans (T.Jj this (Nat.le_refl _)) hr)
 ·intro j hj d
  rcases W.dom _ d with d|d
  ·exact .inl (V.own j hj d)
  ·omega
 ·intro j y hy hcy hL r d
  have hji:j≠i:=fun e=>hL (.inr e)
  have rT:¬L j:=fun h=>hL (.inl h)
  rcases W.dom r d with d'|d'
  ·exact V.calls j y hy hcy rT r d'
  ·have hij:i<j:=by
    rcases Nat.lt_or_ge j i with h|h
    ·exact absurd ((Zz j y hy hcy hji).2 h) rT
    ·omega
   have h1:=W.rel.lt r d
   have h2:=T.Jj (k:=i+1) (l:=j) (by omega) (Nat.le_of_lt (List.getElem?_eq_some_iff.1 hy).1)
   omega
 ·rintro j r row (h|rfl) hu hne
  ·exact W.grows.le.dom (V.wrt j r row h hu hne)
  ·rw[hU]at hu;simp at hu
 ·intro r d
  rcases W.dom r d with d|d
  ·exact V.dom r d
  ·exact .inr (by omega)
 ·intro r s p hr e
  exact V.old r s p hr (W.old r s p (by omega) e)
 ·rw[Act.Cd];exact V.defers

theorem UR {ts ts':Ts}{g:Option (Nat × Bool)}(h:∀p,g=some p->ts' p.1=ts p.1):BF ts' g=BF ts g:=by
 cases g with
 |none=>rfl
 |some p=>simp only[BF,h p rfl]

def listed (arr:Array Bool) (j:Nat):Prop:=arr.getD j false=true

theorem D3 {arr:Array Bool}(hi:i<arr.size):listed (arr.setIfInBounds i true)=L1 (listed arr) i:=by
 funext j
 simp only[listed,L1]
 by_cases hj:j=i
 ·subst hj;simp[hi]
 ·rw[getD_set_ne false (Ne.symm hj)];simp[hj]

theorem take_one (hx:Cf P n ops ops.toList=some xs) (D:Rk ops xs ap) (T:Text P lo base xs S U) (hap:∀p∈ap,∀r∈Ap (ev (S xs.length).1 p.1),r∉Ap (ev (S xs.length).1 p.2))
 (V:Inv n lo base ops xs S U I0 w0 a0 L I w a) (R:Tq ops xs L i x) {K:Act->World->Prop} {Q:Exit->Act->World->Prop} (hK:∀J w1 a1,Inv n lo base ops xs S U I0 w0 a0 (L1 L i) J w1 a1->K a1 w1):
 wpOpIn (WR ro) 0 P ops Q i K a w:=by
 obtain⟨KJ,hget⟩:=BN hx
 have hlen:xs.length=ops.size:=by rw[KJ];simp
 have hi:i<xs.length:=(List.getElem?_eq_some_iff.1 R.at_).1
 obtain⟨o,ho⟩:∃o,ops[i]? =some o:=⟨ops[i],Array.getElem?_eq_getElem (by omega)⟩
 obtain⟨x',hx',hxo⟩:=hget i o (by rw[Array.getElem?_toList];exact ho)
 rw[R.at_]at hx';simp at hx';subst hx'
 simp only[KW,Option.bind_eq_some_iff]at hxo
 obtain⟨gd,hgd,ins,hins,hxo⟩:=hxo
 split at hxo
 ·rename_i hok
  simp only[Bool.and_eq_true]at hok
  simp only[Option.some.injEq]at hxo
  have hdef:=Gc hins
  have hguard:x.guard=gd:=by rw[<-hxo]
  have hdst:x.dst=o.dst:=by rw[<-hxo]
  have Zx:x.ins=ins:=by rw[<-hxo]
  have gM:IZ n x.dst=true:=by rw[hdst];exact hok.2
  have hwant:BF (FN xs S L) gd=BF (S i).1 gd:=UR fun p hp=>MO D hlen T V R (by rw[Ao.rd,hguard,hp];simp)
  have hw:=EC V.ts hgd
  unfold wpOpIn
  simp only[ho]
  rw[hw,hwant]
  have hs:=T.step i x R.at_
  generalize ha:S i=s at hs
  generalize hb:S (i+1)=s' at hs
  generalize hu:U i=u at hs
  cases hs with
  | skip ts h hg=>
    rw[hguard]at hg
    simp only[hg,Bool.false_eq_true,if_false]
    refine⟨fun _ _=>trivial,?_⟩
    have hinv:=Zp D hlen T V R hap (v:=undef) (J:=I) (w1:=w) hu (by rw[hb,ha];rfl) (by rw[hb,ha]) (fun _=>by rw[ha,hguard];exact hg) (fun _=>rfl) (by simp) (BA.refl I w) (fun _ d=>.inl d) (fun _ _ _ _ e=>e) V.rel (BV I).2 (Ext.refl I lo w) gM
    rw[(BV I).1,hdst]at hinv
    exact hK _ _ _ hinv
  | op ts h ao v u hg ET h2 h3=>
    rw[hguard]at hg
    simp only[hg,if_true]
    have Zy:comp P o=some (.op ao):=by rw[hins,<-Zx,ET]
    have hkn:ao.known=true:=by have:=hok.1;rw[<-Zx,ET]at this;exact this
    have ha1:(S i).1=ts:=by rw[ha]
    have ha2:(S i).2=h:=by rw[ha]
    have hrd:∀t∈ao.rd,FN xs S L t=ts t:=fun t ht=>by rw[<-ha1];exact MO D hlen T V R (RU ET ht)
    have hsel:ao.Ec=true:=by have:=D.Ec i x R.at_;rw[Ao.Ec,ET]at this;exact this
    have htd:∀r∈ao.touch ts,I.dom r:=fun r hr=>P0 D hlen T V R ET (by rw[ha1];exact hr)
    have hto:∀r,r∈ao.touch ts->r∈Du (S i).1 x.DF:=fun r hr=>by rw[ha1,(JN ET).1,<-JM];exact hr
    have hnone:x.XR=true->u=none:=fun hl=>by
     unfold Ao.XR at hl
     rw[ET]at hl
     cases ao<;>simp at hl
     cases u with
     |none=>rfl
     | some p=>
       exfalso
       obtain⟨r,row⟩:=p
       rcases h2 r row rfl with e|⟨-,e, -⟩
       ·have h4:=h3 h fun _ _ _=>rfl
        have h5:=(Ar h4).2
        have h6:=T.own' hi i (Nat.le_refl _)
        rw[ha2,<-e]at h6
        have h7:(h.upd (some (r,row))).get r=some row:=by simp[H.upd,H.put]
        rw[h5,h6]at h7
        simp at h7
       ·simp[Bn.wr]at e
    have lE:BZ P lo (base+i) ts (DO xs S U L) ao=some (v,(DO xs S U L).upd u):=by
     cases hl:x.XR with
     | false=>
       refine h3 _ fun r hr hne=>?_
       rw[<-ha2];exact VS D hlen T V R hl hap (htd r hr) (by rw[ha2];exact hne) (.inr (hto r hr))
     | true=>
       have hu0:=hnone hl
       subst hu0
       unfold Ao.XR at hl
       rw[ET]at hl
       cases ao<;>simp at hl
       rename_i kt z ok m k
       have h4:=(Ar (h3 h fun _ _ _=>rfl)).1
       have h5:=ZR D hlen T V R hap ET (v:=v) (by rw[ha1,ha2];exact h4)
       rw[ha1]at h5
       simp only[BZ,AE.keep,h5,Option.map_some,H.upd]
    rw[<-jm hsel hrd]at lE
    have hnd:¬I.dom (base+i):=fun d=>R.not (V.own i hi d)
    have hroom:=T.room' (k:=xs.length) (Nat.le_refl _)
    have qA:=T.fW
    obtain⟨J,w1,nx,⟨hg',hdom,hold⟩,hrel,hin,hext,hrun,hnx⟩:=TE V.ts.ev Zy hkn V.rel hnd (by simp only[DO];omega) (by omega) lE
    refine FW (v:=ren J v) hdef hrun (hnx.imp id (fun e=>⟨e.1,by rw[e.2];exact(BV J).1⟩)) ?_
    have hinv:=Zp D hlen T V R hap hu (by rw[hb,ha2]) (by rw[hb,ha1]) (fun hc=>by simp[Ao.OG,ET]at hc) hnone (fun r row e=>(h2 r row e).imp id (fun e=>?_)) hg' hdom hold hrel hin hext gM
    ·rw[hdst]at hinv
     exact hK _ _ _ hinv
    ·have hwt:r∈ao.touch ts:=by
      have:=e.2.1
      have this:=U2 this
      rw[Du,List.mem_flatMap]at this
      obtain⟨o',ho',hr'⟩:=this
      rw[JM,Du,List.mem_flatMap]
      exact⟨o',Rt ho',hr'⟩
     exact⟨htd r hwt,hto r hwt,by rw[ha2];exact e.2.2⟩
  | call ts h f args v h' hg ET hcall=>
    have hg0:=hg
    rw[hguard]at hg
    simp only[hg,if_true]
    have Zy:comp P o=some (.call f args):=by rw[hins,<-Zx,ET]
    have ha1:(S i).1=ts:=by rw[ha]
    have ha2:(S i).2=h:=by rw[ha]
    have Up:x.OG=true:=by simp[Ao.OG,ET]
    have hrd:∀t∈f.rd++fD args,FN xs S L t=ts t:=fun t ht=>by rw[<-ha1];exact MO D hlen T V R (by simp only[Ao.rd,ET,List.mem_append];exact .inr (by simpa using ht))
    have e1:ev (FN xs S L) f=ev ts f:=Ed fun t ht=>hrd t (by simp[ht])
    have e2:args.map (ev (FN xs S L))=args.map (ev ts):=QU fun t ht=>hrd t (by simp[ht])
    obtain⟨c,hoc,hcf,hcas⟩:=Jp Zy
    obtain⟨ef,iF⟩:=hcf _ _ _ V.ts.ev
    rw[e1]at ef iF
    obtain⟨Mi,Mt⟩:=Ho V.ts.ev hcas
    rw[e2]at Mi Mt
    have hrel:Rel I h w:=by
     refine⟨fun r row hr d=>V.rel.rows r row ?_ d,fun r d=>?_,V.rel.size,V.rel.base,V.rel.tabs,V.rel.inj,?_⟩
     ·rw[VS D hlen T V R (by simp[Ao.XR,ET]) hap d (by rw[ha2,hr];simp) (.inl Up),ha2,hr]
     ·rw[<-ha2];exact V.calls i x R.at_ Up R.not r d
     ·rw[<-ha2];exact T.clean' (by omega)
    refine hcall.run o c ro a I w _ Q hoc ef Mi hrel iF Mt fun J w1 AV hin=>?_
    have hinv:=Zq D hlen T V R hu (by rw[hb,ha1]) Up (by rw[ha1];exact hg0) (by rw[hb,ha2];exact AV) hin gM
    rw[hdst]at hinv
    exact hK _ _ _ hinv
 ·simp at hxo

def left (m:Nat) (arr:Array Bool):Nat:=((List.range m).filter fun j=>!arr.getD j false).length

theorem Sj {m:Nat}{arr:Array Bool}(hi:i<m) (hs:i<arr.size) (hn:arr.getD i false=false):left m (arr.setIfInBounds i true)<left m arr:=by
 unfold left
 have hsub:((List.range m).filter fun j=>!(arr.setIfInBounds i true).getD j false)=((List.range m).filter fun j=>!arr.getD j false).filter (fun j=>!(arr.setIfInBounds i true).getD j false):=by
  rw[List.filter_filter]
  apply List.filter_congr
  intro j _
  by_cases hj:j=i
  ·subst hj;simp[hs]
  ·rw[getD_set_ne false (Ne.symm hj)];simp
 rw[hsub]
 apply List.length_filter_lt_length_iff_exists.2
 refine⟨i,by simp[hi];simpa using hn,by simp[hs]⟩

theorem US (hx:Cf P n ops ops.toList=some xs) (D:Rk ops xs ap) (T:Text P lo base xs S U) (hap:∀p∈ap,∀r∈Ap (ev (S xs.length).1 p.1),r∉Ap (ev (S xs.length).1 p.2))
 {Q:Exit->Act->World->Prop} (hQ:∀J w1 a1,Inv n lo base ops xs S U I0 w0 a0 (fun j=>j<xs.length) J w1 a1->Q .normal a1 w1):
 ∀(fuel:Nat) (arr:Array Bool) (I:Al) (w:World) (a:Act),arr.size=xs.length->left xs.length arr<=fuel->Inv n lo base ops xs S U I0 w0 a0 (listed arr) I w a->wpAnyIn (WR ro) 0 P .any ops Q fuel arr a w:=by
 obtain⟨KJ,hget⟩:=BN hx
 have hlen:xs.length=ops.size:=by rw[KJ];simp
 have hdone:∀(arr:Array Bool) (I:Al) (w:World) (a:Act),arr.size=xs.length->Inv n lo base ops xs S U I0 w0 a0 (listed arr) I w a->Region.ready .any ops arr=[]->Q .normal a w:=by
  intro arr I w a hsz V hr
  have hall:∀j,j<xs.length->listed arr j:=by
   intro j
   induction j using Nat.strongRecOn with
   | _ j ih=>
     intro hj
     by_cases hl:listed arr j
     ·exact hl
     ·exfalso
      have:j∈Region.ready .any ops arr:=by
       rw[mem_ready]
       refine⟨?_,ops[j],Array.getElem?_eq_getElem (by omega),fun e he hb=>?_⟩
       ·have h1:arr.getD j false=false:=by simpa[listed]using hl
        rw[Array.getD_eq_getD_getElem?,Array.getElem?_eq_getElem (by omega)]at h1⊢
        simpa using h1
       ·have hbe:e.on∈EI ops j:=by
         unfold EI
         rw[Array.getElem?_eq_getElem (by omega)]
         simp only[List.mem_map,List.mem_filter]
         exact⟨e,⟨by simpa using he,hb⟩,rfl⟩
        have hlt:=D.lt j _ hbe hj
        exact ih _ hlt (by omega)
      rw[hr]at this
      simp at this
  have hL:listed arr=fun j=>j<xs.length:=by
   funext j
   exact propext ⟨V.lt j,hall j⟩
  rw[hL]at V
  exact hQ _ _ _ V
 have lh:∀(arr:Array Bool) (I:Al) (w:World) (a:Act) (j:Nat),arr.size=xs.length->Inv n lo base ops xs S U I0 w0 a0 (listed arr) I w a->j∈Region.ready .any ops arr->∃y,Tq ops xs (listed arr) j y:=by
  intro arr I w a j hsz V hj
  rw[mem_ready]at hj
  obtain⟨h1,o,ho,h2⟩:=hj
  have hjs:j<ops.size:=(Array.getElem?_eq_some_iff.1 ho).1
  obtain⟨y,hy, -⟩:=hget j o (by rw[Array.getElem?_toList];exact ho)
  refine⟨y,hy,?_,fun e he=>?_⟩
  ·intro hl
   unfold listed at hl
   rw[Array.getD_eq_getD_getElem?,Array.getElem?_eq_getElem (by omega)]at h1 hl
   simp at h1 hl
   rw[hl]at h1;simp at h1
  ·unfold EI at he
   rw[ho]at he
   simp only[List.mem_map,List.mem_filter]at he
   obtain⟨e',⟨he',hb⟩,rfl⟩:=he
   exact h2 e' (by simpa using he') hb
 intro fuel
 induction fuel with
 | zero=>
   intro arr I w a hsz hleft V
   have hnil:Region.ready .any ops arr=[]:=by
    cases hr:Region.ready .any ops arr with
    |nil=>rfl
    | cons j js=>
      exfalso
      obtain⟨y,R⟩:=lh arr I w a j hsz V (by rw[hr];simp)
      have hj:j<xs.length:=(List.getElem?_eq_some_iff.1 R.at_).1
      have:=Sj (m:=xs.length) (arr:=arr) hj (by omega) (by simpa[listed]using R.not)
      omega
   exact⟨hnil,hdone arr I w a hsz V hnil⟩
 | succ fuel ih=>
   intro arr I w a hsz hleft V
   refine⟨hdone arr I w a hsz V,fun j hj=>?_⟩
   obtain⟨y,R⟩:=lh arr I w a j hsz V hj
   have uO:j<xs.length:=(List.getElem?_eq_some_iff.1 R.at_).1
   refine take_one hx D T hap V R (fun J w1 a1 V'=>?_)
   refine ih _ J w1 a1 (by simpa using hsz) ?_ ?_
   ·have:=Sj (m:=xs.length) (arr:=arr) uO (by omega) (by simpa[listed]using R.not)
    omega
   ·rw[D3 (by omega)]
    exact V'

end
end AE

/- A region that draws its order, as_ a rule. -/
namespace AE
open Go Go.RowKit

def Apart (ap:List (AP × AP)) (ts:Ts):Prop:=∀p∈ap,∀r∈Ap (ev ts p.1),r∉Ap (ev ts p.2)

theorem quiet_of {P:Program}{lo base:Nat}{xs:List Ao}{S:Nat->Ts × H}{U:Nat->Option (Nat × A9)}(step:∀i x,xs[i]? =some x->Fx P lo base i x (S i) (U i) (S (i+1))) (room:base+xs.length<=(S 0).2.next) (fW:lo<=base):
 ∀k,k<=xs.length->Quiet lo (S 0).2 (S k).2
 |0,_=>Quiet.refl _ _
 | k+1,hk=>by
   have ih:=quiet_of step room fW k (by omega)
   have hs:=step k _ (List.getElem?_eq_getElem (by omega:k<xs.length))
   exact ih.trans (hs.quiet fW (by have:=ih.next;omega))

theorem GV (w:Nat->Prop) (h:∀j,¬w j) (m:Nat):ver w m=0:=by
 rcases GU w m with⟨h1, -⟩|⟨j, -, -,h1, -⟩
 ·exact h1
 ·exact absurd h1 (h j)

theorem WT.Ck {tp:Bool}{P:Program}{n lo:Nat}{id:Nat}{ops:Array Oper}{xs:List Ao}{ap:List (AP × AP)}{Q:Exit->Ts->H->Prop}{ts:Ts}{h:H}(hm:P.follows .mixedOrders=true) (hx:Cf P n ops ops.toList=some xs) (hd:ZQ ops xs ap=true) (hlo:lo<=h.next)
 (hr:Run P lo true h.next 0 xs (fun ts' h'=>Apart ap ts'/\Q .normal ts' h') ts (h.bump xs.length)):WT (TC tp P (.region id ops true)) n lo Q ts h:=by
 have hlen:xs.length=ops.size:=by rw[(BN hx).1];simp
 have D:=KR hd
 obtain⟨S,U,h0,hstep,hap,hQ⟩:=GY xs 0 ts _ (fun x hx=>by obtain⟨i,hi,e⟩:=List.getElem_of_mem hx;exact D.Ec i x (by rw[List.getElem?_eq_getElem hi,e])) hr
 have FA:∀i x,xs[i]? =some x->Fx P lo h.next i x (S i) (U i) (S (i+1)):=fun i x hi=>by simpa using hstep i x hi
 have hroom:h.next+xs.length<=(S 0).2.next:=by rw[h0];exact Nat.le_refl _
 have hquiet:=quiet_of FA hroom hlo xs.length (Nat.le_refl _)
 rw[h0]at hquiet
 refine⟨.normal,_,_,hQ,⟨Nat.le_trans (Nat.le_add_right _ _) hquiet.next,hquiet.same,fun hc=>hquiet.clean fun r hr=>hc r (Nat.le_trans (Nat.le_add_right _ _) hr)⟩,fun ro I w a k t _=>?_⟩
 refine wpIn_region_any hm ?_
 have T:Text P lo h.next xs S U:=⟨FA,hroom,by rw[h0];intro r hr;exact k.clean r (Nat.le_trans (Nat.le_add_right _ _) hr),by rw[h0];intro j _;exact k.clean _ (Nat.le_add_right _ _),hlo⟩
 have hno:∀j,¬listed (Array.replicate ops.size false) j:=by
  intro j hj
  unfold listed at hj
  rw[Array.getD_eq_getD_getElem?,Array.getElem?_replicate]at hj
  split at hj<;>simp at hj
 have gO:FN xs S (listed (Array.replicate ops.size false))=ts:=by
  funext t
  unfold FN
  rw[GV _ (fun j hj=>hno j hj.1),h0]
 have ZA:∀r,(DO xs S U (listed (Array.replicate ops.size false))).get r=h.get r:=by
  intro r
  simp only[DO]
  rw[GV _ (fun j hj=>hno j hj.1),h0]
  rfl
 have kd:=k.drew
 refine US (I0:=I) (w0:=w.drew) (a0:=a) hx D T hap (fun J w1 a1 V=>?_) ops.size _ I w.drew a (by simp[hlen]) ?_ ?_
 ·refine⟨rfl,J,⟨⟨V.grows.le,V.grows.new⟩,V.dom,V.old,?_,⟨V.ext.os,V.ext.tape,V.ext.output,V.ext.size,V.ext.block⟩⟩,?_,[],V.defers,Marks.nil _ _ _⟩
  ·refine⟨fun r row hr d=>V.rel.rows r row ?_ d,V.rel.lt,V.rel.size,V.rel.base,V.rel.tabs,V.rel.inj,?_⟩
   ·rw[<-hr]
    exact FV (F:=fun k=>(S k).2.get r) (W:=fun j=>Wr xs S U j r) (T.heap (r:=r)) (Nat.le_refl _) (fun j hj _=>by simp[hj])
   ·exact T.clean' (Nat.le_refl _)
  ·have:FN xs S (fun j=>j<xs.length)=(S xs.length).1:=by
    funext t
    exact FV (F:=fun k=>(S k).1 t) (W:=fun j=>Wt xs j t) (T.tmp (t:=t)) (Nat.le_refl _) (fun j hj _=>by simp[hj])
   rw[<-this]
   exact V.ts
 ·unfold left
  rw[hlen]
  exact Nat.le_trans (List.length_filter_le _ _) (by simp)
 ·refine⟨fun j hj=>absurd hj (hno j),fun j hj=>absurd hj (hno j),by rw[gO];exact t,⟨fun r row hr d=>kd.rows r row (by rw[<-ZA];exact hr) d,fun r d=>?_,kd.size,kd.base,kd.tabs,kd.inj,fun r hr=>?_⟩,fun j hj d=>?_,fun j y hy hc _ r d=>?_,fun j r row hj=>absurd hj (hno j),BA.refl _ _,fun r d=>.inl d,fun _ _ _ _ e=>e,Ext.refl _ _ _,rfl⟩
  ·have h1:=k.lt r d
   have h2:=hquiet.next
   simp only[DO,H.bump]at h2⊢
   omega
  ·rw[ZA]
   have h2:=hquiet.next
   simp only[DO,H.bump]at hr h2
   exact k.clean r (by omega)
  ·have:=k.lt _ d
   omega
  ·have h1:=k.lt r d
   have h2:=T.room' (k:=j) (Nat.le_of_lt (List.getElem?_eq_some_iff.1 hy).1)
   omega

end AE

/- A region that draws its order, in which all that stands before a place is done before it, and what stands behind it is done one after the other: there calls may turn what was there. -/
namespace AE
open Go Go.RowKit

def VR (ops:Array Oper) (c:Nat):Bool:=
 let ms:=masks ops ops.size
 (List.range ops.size).all (fun i=>(EI ops i).all (· <i))&&decide (c<ops.size)&&(List.range c).all (fun i=>ord ms i c)&&(List.range ops.size).all (fun j=>decide (j<=c)||ord ms (j - 1) j)

section
variable {P:Program}{ro:Option Nat}{n lo base c:Nat}{ops F4:Array Oper}{xs1:List Ao}{ap:List (AP × AP)}{S:Nat->Ts × H}{U:Nat->Option (Nat × A9)}

structure Cut (ops:Array Oper) (c:Nat):Prop where
 lt:∀i e,e∈EI ops i->i<ops.size->e<i
 inn:c<ops.size
 first:∀i,i<c->ord (masks ops ops.size) i c=true
 chain:∀j,c<j->j<ops.size->ord (masks ops ops.size) (j - 1) j=true
theorem N9 (h:VR ops c=true):Cut ops c:=by
 simp only[VR,Bool.and_eq_true,decide_eq_true_eq]at h
 obtain⟨⟨⟨h1,h2⟩,h3⟩,h4⟩:=h
 refine⟨fun i e he hi=>?_,h2,fun i hi=>List.all_eq_true.1 h3 i (by simpa using hi),fun j h1 h2=>?_⟩
 ·have:=List.all_eq_true.1 h1 i (by simpa using hi)
  simpa using List.all_eq_true.1 this e he
 ·have:=List.all_eq_true.1 h4 j (by simpa using h2)
  simp only[Bool.or_eq_true,decide_eq_true_eq]at this
  exact this.resolve_left (by omega)

def Down (ops:Array Oper) (L:Nat->Prop):Prop:=∀i,L i->∀e∈EI ops i,L e

theorem Cut.ready (C:Cut ops c) {L:Nat->Prop}(hL:Down ops L) {i j:Nat}(hj:j<ops.size) (hb:∀e∈EI ops j,L e) (ho:ord (masks ops ops.size) i j=true):L i:=by
 have lt:∀k e,e∈EI ops k->e<k:=fun k e he=>C.lt k e he (by
  unfold EI at he
  split at he
  ·rename_i o ho;exact(Array.getElem?_eq_some_iff.1 ho).1
  ·simp at he)
 unfold ord at ho
 rw[FQ ops _ _ hj]at ho
 exact(HD hL lt j hb i ho).1

theorem Dx {arr:Array Bool}{j:Nat}(hsz:arr.size=ops.size):j∈Region.ready .any ops arr↔j<ops.size/\¬listed arr j/\∀e∈EI ops j,listed arr e:=by
 rw[mem_ready]
 constructor
 ·rintro⟨h1,o,ho,h2⟩
  have hj:=(Array.getElem?_eq_some_iff.1 ho).1
  refine⟨hj,fun hl=>?_,fun e he=>?_⟩
  ·unfold listed at hl
   rw[Array.getD_eq_getD_getElem?,Array.getElem?_eq_getElem (by omega)]at h1 hl
   simp at h1 hl
   rw[hl]at h1;simp at h1
  ·unfold EI at he
   rw[ho]at he
   simp only[List.mem_map,List.mem_filter]at he
   obtain⟨e',⟨he',hb⟩,rfl⟩:=he
   exact h2 e' (by simpa using he') hb
 ·rintro⟨hj,h1,h2⟩
  refine⟨?_,ops[j],Array.getElem?_eq_getElem hj,fun e he hb=>?_⟩
  ·have h1:arr.getD j false=false:=by simpa[listed]using h1
   rw[Array.getD_eq_getD_getElem?,Array.getElem?_eq_getElem (by omega)]at h1⊢
   simpa using h1
  ·refine h2 e.on ?_
   unfold EI
   rw[Array.getElem?_eq_getElem hj]
   simp only[List.mem_map,List.mem_filter]
   exact⟨e,⟨by simpa using he,hb⟩,rfl⟩

theorem Sk {m i:Nat}{arr:Array Bool}(hi:i<m) (hs:i<arr.size) (hn:arr.getD i false=false):left m (arr.setIfInBounds i true)+1=left m arr:=by
 have key:∀m,(i<m->left m (arr.setIfInBounds i true)+1=left m arr)/\(m<=i->left m (arr.setIfInBounds i true)=left m arr):=by
  intro m
  induction m with
  |zero=>exact⟨fun h=>by omega,fun _=>rfl⟩
  | succ m ih=>
    have hl:∀a:Array Bool,left (m+1) a=left m a+if a.getD m false then 0 else 1:=fun a=>by
     unfold left
     rw[List.range_succ,List.filter_append,List.length_append]
     congr 1
     simp only[List.filter_cons,List.filter_nil]
     cases a.getD m false<;>rfl
    rw[hl,hl]
    by_cases e:m=i
    ·subst e
     have h1:=ih.2 (Nat.le_refl _)
     have h2:(arr.setIfInBounds m true).getD m false=true:=by simp[hs]
     rw[h1,h2,hn]
     exact⟨fun _=>by simp,fun h=>by omega⟩
    ·have h2:(arr.setIfInBounds i true).getD m false=arr.getD m false:=getD_set_ne false (fun h=>e h.symm)
     rw[h2]
     refine⟨fun h=>?_,fun h=>?_⟩
     ·have:=ih.1 (by omega);omega
     ·have:=ih.2 (by omega);omega
 exact(key m).1 hi

theorem Oe (C:Cut ops c) {Q:Exit->Act->World->Prop}:∀(m i:Nat) (arr:Array Bool) (a:Act) (w:World),c<=i->i+m=ops.size->arr.size=ops.size->(∀j,listed arr j↔j<i)->
 wpOpsIn (WR ro) 0 P ops Q (List.range' i m) a w->wpAnyIn (WR ro) 0 P .any ops Q m arr a w
 | 0,i,arr,a,w,hc,hi,hsz,hl,hw=>by
   refine⟨?_,by simpa[wpOpsIn]using hw⟩
   cases hr:Region.ready .any ops arr with
   |nil=>rfl
   | cons j js=>
     exfalso
     have:=(Dx hsz).1 (show j∈Region.ready .any ops arr by rw[hr];simp)
     exact this.2.1 ((hl j).2 (by omega))
 | m +1,i,arr,a,w,hc,hi,hsz,hl,hw=>by
   have Md:Down ops (listed arr):=fun k hk e he=>by
    have hk':=(hl k).1 hk
    exact(hl e).2 (by have:=C.lt k e he (by omega);omega)
   have hi':i∈Region.ready .any ops arr:=(Dx hsz).2 ⟨by omega,fun h=>by have:=(hl i).1 h;omega,fun e he=>(hl e).2 (C.lt i e he (by omega))⟩
   refine⟨fun hr=>by rw[hr]at hi';simp at hi',fun j hj=>?_⟩
   obtain⟨hj1,hj2,hj3⟩:=(Dx hsz).1 hj
   have hji:j=i:=by
    rcases Nat.lt_trichotomy j i with h|h|h
    ·exact absurd ((hl j).2 h) hj2
    ·exact h
    ·exfalso
     have:=C.ready Md hj1 hj3 (C.chain j (by omega) hj1)
     have:=(hl _).1 this
     omega
   subst hji
   rw[List.range'_succ,wpOpsIn_cons]at hw
   have ih:=fun a w=>Oe C (Q:=Q) m (j+1) (arr.setIfInBounds j true) a w (by omega) (by omega) (by simpa using hsz) (fun k=>by
    rw[D3 (by omega)]
    simp only[L1,hl k]
    omega)
   exact wpOpIn_mono (fun a w h=>ih a w h) hw


theorem HF (arr:Array Bool) (j:Nat):listed arr j\/¬listed arr j:=by unfold listed;cases arr.getD j false<;>simp

theorem VZ (C:Cut ops c) (hx:Cf P n F4 F4.toList=some xs1) (hsz1:F4.size=c) (hsub:∀i,i<c->F4[i]? =ops[i]?) (D:Rk F4 xs1 ap) (T:Text P lo base xs1 S U) {I0:Al}{w0:World}{a0:Act}
 (hap:∀p∈ap,∀r∈Ap (ev (S xs1.length).1 p.1),r∉Ap (ev (S xs1.length).1 p.2)) {Q:Exit->Act->World->Prop} {fuel2:Nat}
 (hQ:∀J w1 a1,Inv n lo base F4 xs1 S U I0 w0 a0 (fun j=>j<xs1.length) J w1 a1->∀arr:Array Bool,arr.size=ops.size->(∀j,listed arr j↔j<c)->wpAnyIn (WR ro) 0 P .any ops Q fuel2 arr a1 w1):
 ∀(fuel:Nat) (arr:Array Bool) (I:Al) (w:World) (a:Act),arr.size=ops.size->(∀j,listed arr j->j<c)->left c arr=fuel->Inv n lo base F4 xs1 S U I0 w0 a0 (listed arr) I w a->wpAnyIn (WR ro) 0 P .any ops Q (fuel+fuel2) arr a w:=by
 obtain⟨KJ,hget⟩:=BN hx
 have hlen:xs1.length=c:=by rw[KJ,<-hsz1];simp
 have hcs:=C.inn
 have hbef:∀i,i<c->EI F4 i=EI ops i:=fun i hi=>by unfold EI;rw[hsub i hi]
 have hall:∀(arr:Array Bool),left c arr=0->∀j,j<c->listed arr j:=by
  intro arr hz j hj
  unfold left at hz
  rw[List.length_eq_zero_iff,List.filter_eq_nil_iff]at hz
  have:=hz j (by simpa using hj)
  unfold listed
  simpa using this
 intro fuel
 induction fuel with
 | zero=>
   intro arr I w a hsz hlt hl V
   rw[Nat.zero_add]
   have hL:listed arr=fun j=>j<xs1.length:=by
    funext j
    exact propext ⟨fun h=>by have:=hlt j h;omega,fun h=>hall arr hl j (by omega)⟩
   rw[hL]at V
   exact hQ I w a V arr hsz fun j=>⟨hlt j,fun h=>hall arr hl j h⟩
 | succ fuel ih=>
   intro arr I w a hsz hlt hl V
   rw[show fuel+1+fuel2=fuel+fuel2+1 by omega]
   have Md:Down ops (listed arr):=fun i hi e he=>by
    have h1:=hlt i hi
    exact V.down i hi e (by rw[hbef i h1];exact he)
   -- one that is not listed, and ready
   have hex:∃j,j<c/\¬listed arr j:=by
    by_cases h:∃j,j<c/\¬listed arr j
    ·exact h
    ·exfalso
     have:left c arr=0:=by
      unfold left
      rw[List.length_eq_zero_iff,List.filter_eq_nil_iff]
      intro j hj
      rcases HF arr j with k|k
      ·unfold listed at k;simp only[k];simp
      ·exact absurd ⟨j,by simpa using hj,k⟩ h
     omega
   have hmin:∀j,j<c->¬listed arr j->∃j',j'<c/\j'∈Region.ready .any ops arr:=by
    intro j
    induction j using Nat.strongRecOn with
    | _ j qp=>
      intro hj hn
      by_cases hb:∀e∈EI ops j,listed arr e
      ·exact⟨j,hj,(Dx hsz).2 ⟨by omega,hn,hb⟩⟩
      ·have hb:∃e,e∈EI ops j/\¬listed arr e:=by
        refine Classical.byContradiction fun h=>hb fun e he=>?_
        rcases HF arr e with k|k
        ·exact k
        ·exact absurd ⟨e,he,k⟩ h
       obtain⟨e,he,hne⟩:=hb
       have gK:=C.lt j e he (by omega)
       exact qp e gK (by omega) hne
   refine⟨fun hr=>?_,fun j hj=>?_⟩
   ·obtain⟨j,hj,hn⟩:=hex
    obtain⟨j', -,h⟩:=hmin j hj hn
    rw[hr]at h;simp at h
   ·obtain ⟨hj1,hj2,hj3⟩:=(Dx hsz).1 hj
    have hjc:j<c:=by
     rcases Nat.lt_or_ge j c with h|h
     ·exact h
     ·exfalso
      have hc':listed arr c\/j=c:=by
       rcases Nat.lt_or_eq_of_le h with h|h
       ·left
        have:∀d,c<j - d->listed arr (j - d - 1):=by
         intro d
         induction d with
         |zero=>exact fun h=>C.ready Md hj1 hj3 (C.chain j (by omega) hj1)
         | succ d uI=>
           intro h'
           have h1:=uI (by omega)
           have:=hlt _ h1
           omega
        have h1:=this 0 (by omega)
        have:=hlt _ h1
        omega
       ·exact .inr h.symm
      rcases hc' with h1|rfl
      ·have:=hlt _ h1;omega
      ·obtain⟨i,hi,hn⟩:=hex
       exact hn (C.ready Md hj1 hj3 (C.first i hi))
    obtain⟨y,hy, -⟩:=hget j F4.toList[j] (List.getElem?_eq_getElem (by simp;omega))
    have R:Tq F4 xs1 (listed arr) j y:=⟨hy,hj2,fun e he=>hj3 e (by rw[<-hbef j hjc];exact he)⟩
    have h1:=take_one (ro:=ro) hx D T hap V R (K:=wpAnyIn (WR ro) 0 P .any ops Q (fuel+fuel2) (arr.setIfInBounds j true)) (Q:=Q) (fun J w1 a1 V'=>by
     refine ih _ J w1 a1 (by simpa using hsz) (fun k hk=>?_) ?_ ?_
     ·rw[D3 (by omega)]at hk
      rcases hk with hk|rfl
      ·exact hlt k hk
      ·exact hjc
     ·have:=Sk (m:=c) (arr:=arr) hjc (by omega) (by simpa[listed]using hj2)
      omega
     ·rw[D3 (by omega)]
      exact V')
    unfold wpOpIn at h1⊢
    rw[hsub j hjc]at h1
    obtain⟨o,ho⟩:∃o,ops[j]? =some o:=⟨ops[j],Array.getElem?_eq_getElem (by omega)⟩
    rw[ho]at h1⊢
    have hw:Region.wanted o (yielded F4 a.tmps)=Region.wanted o (yielded ops a.tmps):=by
     unfold Region.wanted
     cases hg:o.guard with
     |none=>rfl
     | some p=>
       obtain⟨i,b⟩:=p
       have ho1:F4[j]? =some o:=by rw[hsub j hjc,ho]
       obtain⟨x',hx',hxo⟩:=hget j o (by rw[Array.getElem?_toList];exact ho1)
       simp only[KW,LM,hg,Option.bind_eq_some_iff,Option.map_eq_some_iff]at hxo
       obtain⟨g,⟨d,⟨oi,hoi,hd⟩, -⟩, -⟩:=hxo
       have hi:i<c:=by have:=(Array.getElem?_eq_some_iff.1 hoi).1;omega
       simp only[yielded,hsub i hi]
    simp only[hw]at h1
    exact h1

theorem Jf {q:Bool}{K:Ts->H->Prop}{b k:Nat}:∀(xs:List Ao) (i:Nat) (ts:Ts) (h:H),Run P lo q (b+k) i xs K ts h->Run P lo q b (k+i) xs K ts h
 |[],_,_,_,hr=>hr
 | x::xs,i,ts,h,hr=>by
   simp only[Run]at hr⊢
   rw[show b+(k+i)=b+k+i by omega,show k+i+1=k+(i+1) by omega]
   split
   ·rename_i hw
    rw[if_pos hw]at hr
    cases hi:x.ins with
    | op ao=>
      rw[hi]at hr
      obtain⟨v,h',ha,hr⟩:=hr
      exact⟨v,h',ha,Jf xs (i+1) _ _ hr⟩
    | call f args=>
      rw[hi]at hr
      obtain⟨v,h',ha,hr⟩:=hr
      exact⟨v,h',ha,Jf xs (i+1) _ _ hr⟩
   ·rename_i hw
    rw[if_neg hw]at hr
    exact Jf xs (i+1) _ _ hr

theorem WT.cV {tp:Bool}{id:Nat}{xs:List Ao}{Q:Exit->Ts->H->Prop}{ts:Ts}{h:H}(hm:P.follows .mixedOrders=true) (C:Cut ops c) (hx:Cf P n ops ops.toList=some xs) (hsz1:F4.size=c) (hsub:∀i,i<c->F4[i]? =ops[i]?) (hx1:Cf P n F4 F4.toList=some xs1)
 (hd:ZQ F4 xs1 ap=true) (hlo:lo<=h.next) (hr:Run P lo true h.next 0 xs1 (fun FC h1=>Apart ap FC/\Run P lo false h1.next 0 (xs.drop c) (Q .normal) FC (h1.bump (xs.drop c).length)) ts (h.bump xs1.length)):WT (TC tp P (.region id ops true)) n lo Q ts h:=by
 have hlen1:xs1.length=c:=by rw[(BN hx1).1,<-hsz1];simp
 have hlen:xs.length=ops.size:=by rw[(BN hx).1];simp
 have hcs:=C.inn
 have D:=KR hd
 obtain⟨S,U,h0,hstep,hap,hrest⟩:=GY xs1 0 ts _ (fun x hx=>by obtain⟨i,hi,e⟩:=List.getElem_of_mem hx;exact D.Ec i x (by rw[List.getElem?_eq_getElem hi,e])) hr
 have FA:∀i x,xs1[i]? =some x->Fx P lo h.next i x (S i) (U i) (S (i+1)):=fun i x hi=>by simpa using hstep i x hi
 have hroom:h.next+xs1.length<=(S 0).2.next:=by rw[h0];exact Nat.le_refl _
 have hquiet:=quiet_of FA hroom hlo xs1.length (Nat.le_refl _)
 rw[h0]at hquiet
 have hq0:Quiet lo h (S xs1.length).2:=⟨Nat.le_trans (Nat.le_add_right _ _) hquiet.next,hquiet.same,fun hc=>hquiet.clean fun r hr=>hc r (Nat.le_trans (Nat.le_add_right _ _) hr)⟩
 have hnx:h.next+c<=(S xs1.length).2.next:=by have:=hquiet.next;simp only[H.bump]at this;omega
 -- the end
 obtain⟨b,hb⟩:∃b,b+c=(S xs1.length).2.next:=⟨(S xs1.length).2.next - c,by omega⟩
 rw[<-hb]at hrest
 have hrest':=Jf (b:=b) (k:=c) _ 0 _ _ hrest
 rw[Nat.add_zero]at hrest'
 have hdl:(xs.drop c).length=xs.length - c:=by simp
 obtain⟨ts',h',hK,hq,htail⟩:=Kl hx (by omega) (xs.length - c) c (by omega) _ _ (by simp only[H.bump];omega) hrest'
 refine⟨.normal,ts',h',hK,hq0.trans ⟨Nat.le_trans (Nat.le_add_right _ _) hq.next,hq.same,fun hc=>hq.clean fun r hr=>hc r (Nat.le_trans (Nat.le_add_right _ _) hr)⟩,fun ro I w a k t _=>?_⟩
 refine wpIn_region_any hm ?_
 have T:Text P lo h.next xs1 S U:=⟨FA,hroom,by rw[h0];intro r hr;exact k.clean r (Nat.le_trans (Nat.le_add_right _ _) hr),by rw[h0];intro j _;exact k.clean _ (Nat.le_add_right _ _),hlo⟩
 have hno:∀j,¬listed (Array.replicate ops.size false) j:=by
  intro j hj
  unfold listed at hj
  rw[Array.getD_eq_getD_getElem?,Array.getElem?_replicate]at hj
  split at hj<;>simp at hj
 have gO:FN xs1 S (listed (Array.replicate ops.size false))=ts:=by
  funext t
  unfold FN
  rw[GV _ (fun j hj=>hno j hj.1),h0]
 have ZA:∀r,(DO xs1 S U (listed (Array.replicate ops.size false))).get r=h.get r:=by
  intro r
  simp only[DO]
  rw[GV _ (fun j hj=>hno j hj.1),h0]
  rfl
 have kd:=k.drew
 have hfuel:ops.size=c+(ops.size - c):=by omega
 have hleft:left c (Array.replicate ops.size false)=c:=by
  unfold left
  rw[List.filter_eq_self.2]
  ·simp
  ·intro j _
   have:=hno j
   unfold listed at this
   simpa using this
 have main:=VZ (ro:=ro) C hx1 hsz1 hsub D T (I0:=I) (w0:=w.drew) (a0:=a) hap (fuel2:=ops.size - c) (Q:=fun e' a' w'=>e'= .normal/\∃J,BR I J lo h.next h' w w'/\Bv J n ts' a'.tmps/\∃ms,a'.defers=ms++a.defers/\Marks J w w' ms) (fun J w1 a1 V arr hsz hl=>?_) c (Array.replicate ops.size false) I w.drew a (by simp) (fun j hj=>absurd hj (hno j)) hleft ?_
 ·rw[hfuel]
  rw[hfuel]at main
  simpa using main
 ·refine Oe C (ops.size - c) c arr a1 w1 (Nat.le_refl _) (by omega) hsz hl ?_
  have hrel:Rel J (S xs1.length).2 w1:=by
   refine⟨fun r row hr d=>V.rel.rows r row ?_ d,V.rel.lt,V.rel.size,V.rel.base,V.rel.tabs,V.rel.inj,T.clean' (Nat.le_refl _)⟩
   rw[<-hr]
   exact FV (F:=fun k=>(S k).2.get r) (W:=fun j=>Wr xs1 S U j r) (T.heap (r:=r)) (Nat.le_refl _) (fun j hj _=>by simp[hj])
  have hts:Bv J n (S xs1.length).1 a1.tmps:=by
   have:FN xs1 S (fun j=>j<xs1.length)=(S xs1.length).1:=by
    funext t
    exact FV (F:=fun k=>(S k).1 t) (W:=fun j=>Wt xs1 j t) (T.tmp (t:=t)) (Nat.le_refl _) (fun j hj _=>by simp[hj])
   rw[<-this]
   exact V.ts
  have:=htail ro J w1 a1 (hrel.bump _) hts (fun j h1 h2 d=>by have:=hrel.lt _ d;omega) (fun e' a' w'=>e'= .normal/\∃J,BR I J lo h.next h' w w'/\Bv J n ts' a'.tmps/\∃ms,a'.defers=ms++a.defers/\Marks J w w' ms)
   (fun J' w' a' hw t' hd=>⟨rfl,J',?_,t',[],by rw[hd,V.defers];rfl,Marks.nil _ _ _⟩)
  ·rw[hlen]at this;exact this
  ·have W1:BR I J lo h.next (S xs1.length).2 w w1:=⟨⟨V.grows.le,V.grows.new⟩,V.dom,V.old,hrel,⟨V.ext.os,V.ext.tape,V.ext.output,V.ext.size,V.ext.block⟩⟩
   exact W1.trans hw (by omega)
 ·refine⟨fun j hj=>absurd hj (hno j),fun j hj=>absurd hj (hno j),by rw[gO];exact t,⟨fun r row hr d=>kd.rows r row (by rw[<-ZA];exact hr) d,fun r d=>?_,kd.size,kd.base,kd.tabs,kd.inj,fun r hr=>?_⟩,fun j hj d=>?_,fun j y hy hc _ r d=>?_,fun j r row hj=>absurd hj (hno j),BA.refl _ _,fun r d=>.inl d,fun _ _ _ _ e=>e,Ext.refl _ _ _,rfl⟩
  ·have h1:=k.lt r d
   have h2:=hquiet.next
   simp only[DO,H.bump]at h2⊢
   omega
  ·rw[ZA]
   have h2:=hquiet.next
   simp only[DO,H.bump]at hr h2
   exact k.clean r (by omega)
  ·have:=k.lt _ d
   omega
  ·have h1:=k.lt r d
   have h2:=T.room' (k:=j) (Nat.le_of_lt (List.getElem?_eq_some_iff.1 hy).1)
   omega

end
end AE

/- Scopes: code that may be jumped into; here nothing jumps. -/
namespace AE
open Go

theorem ED {P:Program}{b:Frame}{a:Act}{k:List Item}{cs:List Frame}{w:World}{c:Code}:step P (lone (b.atR a (.code (.scope c)::k)) cs w)= .next (lone (b.atR a (.code c:: .inScope c::k)) cs w):=
 step_lone_go (by simp[stepG,stepG.exec,Frame.atR])
theorem Oy {P:Program}{b:Frame}{a:Act}{k:List Item}{cs:List Frame}{w:World}{c:Code}:step P (lone (b.atR a (.inScope c::k)) cs w)= .next (lone (b.atR a k) cs w):=
 step_lone_go (by simp[stepG,stepG.exec,Frame.atR])

theorem MZ {P:Program}{ro:Option Nat}{c:Code}{Q:Exit->Act->World->Prop}{a:Act}{w:World}(h:c.wpIn (WR ro) 0 P (fun e a w=>(∀l,e≠ .goto l)/\Q e a w) a w):(Code.scope c).wpIn (WR ro) 0 P Q a w:=by
 intro b k cs hro hb hr
 obtain⟨e,a₁,w₁,⟨uN,hq⟩,harr⟩:=h b (.inScope c::k) cs hro hb hr
 cases e with
 |normal=>exact⟨.normal,a₁,w₁,hq,.head (DC P ro _) ED (StepsIn.trans harr (.one (DC P ro _) Oy))⟩
 | exit id=>
   have hx:exitTo id (.inScope c::k)=exitTo id k:=by simp[exitTo]
   exact⟨_,a₁,w₁,hq,fun k' hk=>.head (DC P ro _) ED (harr.1 k' (by rw[hx];exact hk)),
    fun hr' hk=>let⟨k₁,h1,h2⟩:=harr.2 hr' (by rw[hx];exact hk);⟨k₁,h1,.head (DC P ro _) ED h2⟩⟩
 |goto l=>exact absurd rfl (uN l)
 |ret=>exact⟨_,a₁,w₁,hq,.of_steps (.one (DC P ro _) ED) harr⟩
 |panic ch=>exact⟨_,a₁,w₁,hq,.of_steps (.one (DC P ro _) ED) harr⟩
 |outgrown=>exact⟨_,a₁,w₁,hq,.of_steps (.one (DC P ro _) ED) harr⟩

theorem WT.scope {tp:Bool}{P:Program}{n lo:Nat}{Q:Exit->Ts->H->Prop}{ts:Ts}{h:H}{c:Code}(a:WT (TC tp P c) n lo (fun e ts h=>(∀l,e≠ .goto l)/\Q e ts h) ts h):WT (TC tp P (.scope c)) n lo Q ts h:=by
 obtain⟨e,ts',h',⟨hg,q⟩,hq,g⟩:=a
 refine⟨e,ts',h',q,hq,fun ro I w a k t htp=>MZ (Go.wpIn_mono (g ro I w a k t htp) ?_)⟩
 rintro e' a' w' ⟨rfl,J,r⟩
 exact⟨hg,rfl,J,r⟩

end AE

/- Ranges over functions: the statement, and a call of yield. -/
namespace AE
open Go Go.RowKit

def FD (n:Nat) (ts:Ts) (ps:List Nat) (CB body:Code):DN:=⟨.ready,.none,n,ts,ps,CB,body⟩
def H.enter (h:H) (L:DN):H:=(h.bump 1).put h.next (.loop L)
def F0:OJ->Exit
 |.none=>.normal
 |.ret=>.ret
 |.exit id=>.exit id

section
variable {P:Program}{n lo:Nat}{Q:Exit->Ts->H->Prop}{ts:Ts}{h:H}

theorem Rel.aside {I:Al}{w:World}(k:Rel I h w) (o:Obj):Rel I h (w.alloc o):=
 ⟨fun r row hr d=>(k.rows r row hr d).le (Le.refl I) (fun _ _ e=>e) (fun _ ⟨_,_,hb⟩=>heap_alloc_old w o (k.size _ _ _ _ hb)),k.lt,
  fun r s b d e=>by have:=k.size _ _ _ _ e;simp;omega,by have:=k.base;simp;omega,k.tabs.same (fun b' h1=>heap_alloc_old w o (Nat.lt_of_lt_of_le h1 k.base)),k.inj,k.clean⟩

theorem Quiet.put {lo:Nat}{h:H}{r:Nat}{row:A9}(hr:lo<=r) (hn:r<h.next):Quiet lo h (h.put r row):=by
 refine⟨Nat.le_refl _,fun r' hr'=>?_,fun hc r' hr'=>?_⟩
 ·simp only[H.put];rw[if_neg (by omega)]
 ·simp only[H.put]at hr'⊢;rw[if_neg (by omega)];exact hc r' hr'
theorem Quiet.bump {lo:Nat}{h:H}(k:Nat):Quiet lo h (h.bump k):=⟨by simp[H.bump],fun _ _=>rfl,fun hc r hr=>hc r (by simp only[H.bump]at hr;omega)⟩
theorem Quiet.enter (hlo:lo<=h.next) (L:DN):Quiet lo h (h.enter L):=(Quiet.bump 1).trans (Quiet.put hlo (by simp[H.bump]))

theorem But.set (w:World) (l:Nat) (o:Obj):But l w {w with heap:=w.heap.setIfInBounds l o}:=
 ⟨rfl,rfl,rfl,by simp,fun j hj=>by simp[Array.getElem?_setIfInBounds_ne (Ne.symm hj)]⟩

theorem EO {J:Al}{h':H}{w:World}{r l:Nat}{L:DN}(k:Rel J h' w) (hg:h'.get r=some (.loop L)) (hat:J.at_ r none=some (l,0)):
 ∃tmps db fn,J.base<=l/\Bv J L.size L.tmps tmps/\w.heap[l]? =some (.loop {state:=L.state,pending:=C1 L.pend,fn,tmps,params:=⟨L.params⟩,assign:=L.CB,body:=L.body,defers:=db}):=by
 obtain⟨b,tmps,db,fn,e1,e2,e3,e4⟩:=k.rows r _ hg ⟨none,_,hat⟩
 rw[hat]at e1
 simp only[Option.some.injEq,Prod.mk.injEq,and_true]at e1
 subst e1
 exact⟨tmps,db,fn,e2,e3,e4⟩

theorem KB {J:Al}{h':H}{w:World}{r l:Nat}{L L':DN}(k:Rel J h' w) (hg:h'.get r=some (.loop L)) (hat:J.at_ r none=some (l,0)) (hlo:lo<=r) (hs:L'.size=L.size) (ht:L'.tmps=L.tmps) (hp:L'.params=L.params) (ha:L'.CB=L.CB) (hb:L'.body=L.body):
 ∀lp:Loop,w.heap[l]? =some (.loop lp)->BR J J lo h'.next (h'.put r (.loop L')) w {w with heap:=w.heap.setIfInBounds l (.loop {lp with state:=L'.state,pending:=C1 L'.pend})}:=by
 intro lp hlp
 obtain⟨tmps,db,fn,e2,e3,e4⟩:=EO k hg hat
 rw[e4]at hlp
 simp only[Option.some.injEq,Obj.loop.injEq]at hlp
 subst hlp
 have B2:=But.set w l (.loop {state:=L'.state,pending:=C1 L'.pend,fn:=fn,tmps:=tmps,params:=⟨L.params⟩,assign:=L.CB,body:=L.body,defers:=db})
 refine⟨BA.refl J w,fun _ d=>.inl d,fun _ _ _ _ e=>e,k.store e2 ⟨_,_,hat⟩ B2 ?_,B2.ext hlo hat e2⟩
 refine⟨l,tmps,db,fn,hat,e2,by rw[hs,ht];exact e3,?_⟩
 have hsz:=k.size _ _ _ _ hat
 simp only[hp,ha,hb]
 rw[Array.getElem?_setIfInBounds_self_of_lt hsz]

theorem Vm {ro:Option Nat}{p:OJ}{Q:Exit->Act->World->Prop}{a:Act}{w:World}(q:Q (F0 p) a w):
 (match C1 p with|none=>Q .normal a w|some c=>c.wpIn (WR ro) 0 P Q a w):=by
 cases p with
 |none=>exact q
 |ret=>exact wpIn_ret q
 |exit id=>exact wpIn_exit q

theorem WT.range {f:Operand}{f':AP}{g:FuncId}{first BL:List Value}{ps:List Nat}{CB body:Code}{v:Value}{h':H}{L:DN}(hf:AJ f=some f') (hv:ev ts f'= .func (.func g) ⟨first⟩ ⟨BL⟩) (hlo:lo<=h.next)
 (ha:AF P g lo (h.enter (FD n ts ps CB body)) (first++[.func (.yield h.next) ⟨[]⟩ ⟨[]⟩]++BL) v h') (hL:h'.get h.next=some (.loop L)) (hs:L.state≠ .busy) (q:Q (F0 L.pend) ts (h'.put h.next .gone)):
 WT (TC true P (.rangeFunc f ⟨ps⟩ CB body)) n lo Q ts h:=by
 have hq:=(Quiet.enter hlo (FD n ts ps CB body)).trans ha.quiet
 have hnx:h.next<h'.next:=Nat.lt_of_lt_of_le (by simp[H.enter,H.bump,H.put]) ha.quiet.next
 refine⟨_,ts,_,q,hq.trans (Quiet.put hlo hnx),fun ro I w a k t htp=>?_⟩
 have hro:=htp rfl
 subst hro
 refine wpIn_rangeFunc fun fn _=>?_
 let w0:=w.alloc (.deferred (some []))
 let ob:Obj:=.loop {state:=.ready,pending:=none,fn:=fn,tmps:=a.tmps,params:=⟨ps⟩,assign:=CB,body:=body,defers:=w.heap.size}
 have hsz0:w0.heap.size=w.heap.size+1:=by simp[w0]
 have k0:Rel I h w0:=k.aside _
 have hnd:¬I.dom h.next:=fun d=>by have:=k.lt _ d;omega
 have hle:Le I (I.plus h.next none w0.heap.size 0):=Le.plus (Dh hnd none)
 have k1:Rel (I.plus h.next none w0.heap.size 0) (h.enter (FD n ts ps CB body)) (w0.alloc ob):=by
  refine(k0.bump 1).new hnd (by simp[H.bump]) none 0 ob ?_
  exact⟨w0.heap.size,a.tmps,w.heap.size,fn,Al.Ax ..,k0.base,t.le hle,by rw[heap_alloc];rfl⟩
 obtain⟨ef,iF⟩:=t.ev f f' hf
 rw[hv]at ef iF
 obtain⟨mq,kU⟩:=hle.ren _ iF
 simp only[ren,DY]at ef
 have hev:∀x:Operand,({a with defers:=[({target:=.collected w.heap.size,args:= #[]}:Deferred)]++a.defers}:Act).eval x=a.eval x:=fun x=>by cases x<;>rfl
 refine⟨w0.heap.size,[{target:=.collected w.heap.size,args:= #[]}],w0.alloc ob,{target:=.fn (.func g) ⟨Ah I BL⟩,args:=⟨Ah I first⟩++ #[.func (.yield w0.heap.size) #[] #[]]},w0.alloc ob,g,⟨Ah (I.plus h.next none w0.heap.size 0) (first++[.func (.yield h.next) ⟨[]⟩ ⟨[]⟩]++BL)⟩,w0.alloc ob,?_,?_,fun _ _=>trivial,?_,fun _=>by simp[WR,Fence.wide]at*,?_⟩
 ·simp[Instr.enterLoop,WR,Fence.wide,w0,ob]
 ·have gN:∀v,a.eval (.const v)=v:=fun v=>rfl
  simp[resolve,rangeCall,ef,gN,Deferred.ofValue]
 ·have hargs:((⟨Ah I first⟩:Array Value)++ #[.func (.yield w0.heap.size) #[] #[]]++⟨Ah I BL⟩)=⟨Ah (I.plus h.next none w0.heap.size 0) (first++[.func (.yield h.next) ⟨[]⟩ ⟨[]⟩]++BL)⟩:=by
   simp only[In,Gn,true_and]at iF
   apply Array.ext'
   simp[BM,(hle.Ah _ iF.1).1,(hle.Ah _ iF.2).1,Ah,ren,DY,Al.blk,Al.Ax]
  simp only[invoke]
  rw[hargs]
  exact ha.enters _ _
 ·refine JZ ((ha.calls _ _ k1 ?_).mono ?_)
  ·simp only[In,Gn,true_and]at iF
   rw[B4,B4]
   exact⟨⟨(hle.Ah _ iF.1).2,by simp only[BH,In,Gn,and_true];exact⟨_,Al.Ax ..⟩⟩,(hle.Ah _ iF.2).2⟩
  ·rintro e w3 ⟨J,W,iv,rfl⟩
   have hat:J.at_ h.next none=some (w0.heap.size,0):=W.grows.le.at_ _ _ _ (Al.Ax ..)
   obtain⟨tmps,db,fn',e2,e3,e4⟩:=EO W.rel hL hat
   have B2:=But.set w3 w0.heap.size (.loop {state:=.exhausted,pending:=C1 L.pend,fn:=fn',tmps,params:=⟨L.params⟩,assign:=L.CB,body:=L.body,defers:=db})
   refine⟨C1 L.pend,{w3 with heap:=w3.heap.setIfInBounds w0.heap.size (.loop {state:=.exhausted,pending:=C1 L.pend,fn:=fn',tmps,params:=⟨L.params⟩,assign:=L.CB,body:=L.body,defers:=db})},?_,?_⟩
   ·simp[Instr.endLoop,Instr.getLoop,getObj,setObj,Sem.run,e4]
    cases hst:L.state<;>first|exact absurd hst hs|simp
   ·refine Vm (Q:=fun e' a' w'=>e'=F0 L.pend/\∃J,BR I J lo h.next (h'.put h.next .gone) w w'/\Bv J n ts a'.tmps/\∃ms,a'.defers=ms++a.defers/\Marks J w w' ms) (ro:=none) ⟨rfl,J,?_,?_,[{target:=.collected w.heap.size,args:= #[]}],rfl,?_⟩
    ·have hrel:Rel J (h'.put h.next .gone) _:=W.rel.store e2 ⟨_,_,hat⟩ B2 trivial
     have hold:∀r s p,r<lo->J.at_ r s=some p->I.at_ r s=some p:=fun r s p hr e=>by
      have:=W.old r s p hr e
      rwa [Al.Ay (by omega)]at this
     have hgr:BA I J w:=by
      refine⟨hle.trans W.grows.le,fun r s b d e=>?_⟩
      have Sy:∀r s b d,(I.plus h.next none w0.heap.size 0).at_ r s=some (b,d)->I.at_ r s=some (b,d)\/w.heap.size<=b:=fun r s b d e=>by
       by_cases hr:r=h.next/\s=none
       ·obtain⟨rfl,rfl⟩:=hr
        rw[Al.Ax]at e
        simp only[Option.some.injEq,Prod.mk.injEq]at e
        omega
       ·rw[Al.Ay hr]at e
        exact .inl e
      rcases W.grows.new r s b d e with e|e|⟨s',d',e⟩
      ·exact(Sy _ _ _ _ e).imp id .inl
      ·simp only[World.alloc]at e
       have:w0.heap.size<=b:=by simp at e;omega
       exact .inr (.inl (by omega))
      ·rcases Sy _ _ _ _ e with e|e
       ·exact .inr (.inr ⟨_,_,e⟩)
       ·exact .inr (.inl e)
     refine⟨hgr,fun r d=>?_,hold,hrel,?_⟩
     ·rcases W.dom r d with d|d
      ·rcases Al.BI d with d|rfl
       ·exact .inl d
       ·exact .inr (Nat.le_refl _)
      ·exact .inr (by simp[H.enter,H.bump,H.put]at d;omega)
     ·have x1:=(Ext.alloc I lo w (.deferred (some [])))
      have x2:=x1.trans (BA.refl I w) (Ext.alloc I lo w0 ob)
      refine⟨?_,?_,?_,?_,fun b hb hx=>?_⟩
      ·rw[B2.os,W.ext.os,x2.os]
      ·rw[B2.tape,W.ext.tape,x2.tape]
      ·rw[B2.output,W.ext.output,x2.output]
      ·rw[B2.size];exact Nat.le_trans x2.size W.ext.size
      ·rw[B2.block b (by omega),W.ext.block b (by have:=x2.size;omega) (fun r s d e hbase=>?_),x2.block b hb hx]
       by_cases hr:r=h.next/\s=none
       ·obtain⟨rfl,rfl⟩:=hr
        rw[Al.Ax]at e
        simp only[Option.some.injEq,Prod.mk.injEq]at e
        omega
       ·rw[Al.Ay hr]at e
        exact hx r s d e hbase
    ·exact t.le (hle.trans W.grows.le)
    ·have hb0:(w0.alloc ob).heap[w.heap.size]? =some (.deferred (some [])):=by
      rw[heap_alloc_old w0 ob (by omega)];exact heap_alloc w _
     have hout:∀r s d,(I.plus h.next none w0.heap.size 0).at_ r s≠some (w.heap.size,d):=fun r s d e=>by
      by_cases hr:r=h.next/\s=none
      ·obtain⟨rfl,rfl⟩:=hr
       rw[Al.Ax]at e
       simp only[Option.some.injEq,Prod.mk.injEq]at e
       omega
      ·rw[Al.Ay hr]at e
       have:=k.size _ _ _ _ e
       omega
     have hsz1:(w0.alloc ob).heap.size=w.heap.size+2:=by simp[hsz0]
     refine⟨fun m hm=>?_,by simp⟩
     simp only[List.mem_singleton]at hm
     subst hm
     refine⟨w.heap.size,rfl,Nat.le_refl _,?_,?_,fun r s d e=>?_⟩
     ·rw[B2.size];have:=W.ext.size;omega
     ·rw[B2.block _ (by omega),W.ext.block _ (by omega) (fun r s d e=>absurd e (hout r s d)),hb0]
     ·rcases W.grows.new r s _ d e with e|e|⟨s',d',e⟩
      ·exact hout _ _ _ e
      ·omega
      ·exact hout _ _ _ e


def Gr:List Nat->List Value->Ts->Ts
 |p::ps,v::vs,ts=>Gr ps vs (GL ts p v)
 |_,_,ts=>ts

theorem Bv.Gr {I:Al}:∀(ps:List Nat) (vs:List Value) (ts:Ts) (tmps:Array Value),Bv I n ts tmps->(∀p∈ps,p<n)->BH I vs->
 Bv I n (AE.Gr ps vs ts) ((ps.zip (Ah I vs)).foldl (fun tmps (t,a)=>tmps.setIfInBounds t a) tmps)
 |[],_,_,_,t,_,_=>by simpa[AE.Gr]using t
 |_::_,[],_,_,t,_,_=>by simpa[AE.Gr,Ah]using t
 | p::ps,v::vs,ts,tmps,t,hp,hv=>by
   simp only[AE.Gr,Ah,List.zip_cons_cons,List.foldl_cons]
   refine Bv.Gr ps vs _ _ ?_ (fun q hq=>hp q (by simp[hq])) hv.2
   have hpn:=hp p (by simp)
   have:=Bv.put (a:={tmps:=tmps,defers:=[]}) (dst:=some p) t hv.1 (by simp[IZ,hpn])
   exact this

def roundEnd (e:Exit):Option OJ:=match e with
 |.normal=>some .none
 |.ret=>some .ret
 |.exit id=>some (.exit id)
 |_=>none
def Ku:OJ->Bool
 |.none=>true
 |_=>false
def Nq:OJ->LoopState
 |.none=>.ready
 |_=>.done
def busy (L:DN):DN:={L with state:=.busy}
def ended (L:DN) (p:OJ):DN:={L with state:=Nq p,pend:=p}

theorem KQ {l:Nat}{w:World}{lp:Loop}{p:OJ}(hlp:w.heap[l]? =some (.loop lp)):
 (Instr.endRound l (C1 p)).run P w= .ok (.bool (Ku p)) {w with heap:=w.heap.setIfInBounds l (.loop {lp with state:=Nq p,pending:=C1 p})}:=by
 cases p<;>simp[Instr.endRound,Instr.getLoop,getObj,setObj,Sem.run,hlp,C1,Ku,Nq]

def YW (P:Program) (lo r:Nat) (CB body:Code) (size:Nat) (args:List Value) (ps:List Nat) (tmps:Ts) (h:H) (R:Value->H->Prop):Prop:=
 WT (TC false P CB) size lo (fun e FC h1=>e= .normal/\∃L1,h1.get r=some (.loop L1)/\L1.state= .ready/\
  WT (TC false P body) size lo (fun e _ h2=>∃p L2,roundEnd e=some p/\h2.get r=some (.loop L2)/\R (.bool (Ku p)) (h2.put r (.loop (ended L2 p)))) FC (h1.put r (.loop (busy L1)))) (Gr ps args tmps) h

theorem Tt {r:Nat}{L:DN}{args:List Value}{R:Value->H->Prop}(hg:h.get r=some (.loop L)) (hlo:lo<=r) (hr:r<h.next) (hlen:args.length=L.params.length) (hps:∀p∈L.params,p<L.size)
 (hw:YW P lo r L.CB L.body L.size args L.params L.tmps h R):∃v h',R v h'/\Eg P (.func (.yield r) ⟨[]⟩ ⟨[]⟩) lo h args v h':=by
 obtain⟨e1,FC,h1,⟨rfl,L1,hg1,gH,e2,Wm,h2,⟨p,L2,hp,hg2,hR⟩,hq2,gb⟩,hq1,ga⟩:=hw
 have hn1:r<h1.next:=Nat.lt_of_lt_of_le hr hq1.next
 have hn2:r<h2.next:=Nat.lt_of_lt_of_le hn1 hq2.next
 refine⟨_,_,hR,(hq1.trans (Quiet.put hlo hn1)).trans (hq2.trans (Quiet.put hlo hn2)),fun o c ro a I w K Q ho ef Mi k iF Mt hK=>?_⟩
 simp only[In,Gn]at iF
 obtain⟨⟨l,hat⟩, -⟩:=iF
 obtain⟨tmps,db,fn,eb,ZL,ew⟩:=EO k hg hat
 have hdef:∀c',o.op≠ .defer c':=fun c' e=>by rw[ho]at e;simp at e
 have hblk:I.blk r=l:=by simp[Al.blk,hat]
 simp only[ren,DY,hblk,Ah]at ef
 unfold Mw at ef
 have NW:c.args.map a.eval=⟨Ah I args⟩:=by apply Array.ext';simp[Mi]
 have D5:(execOp a.eval o).run P w= .ok (.round l fn ((L.params.zip (Ah I args)).foldl (fun tmps (t,a)=>tmps.setIfInBounds t a) tmps) L.CB L.body) w:=by
  have hsz:(Ah I args).length=L.params.length:=by rw[Bp,hlen]
  simp[execOp,ho,ef,Deferred.ofValue,invoke,Instr.yield,Instr.getLoop,getObj,Sem.run,ew,NW,hsz]
 refine⟨fun _ _=>trivial,?_⟩
 rw[Oper.semAt_eq _ _ _ hdef,D5,Oper.uponIn_round]
 refine⟨fun h=>by simp[WR,Fence.wide]at h,roundIn_of_wpIn trivial ?_⟩
 have ht0:=Bv.Gr L.params args L.tmps tmps ZL hps Mt
 have hF:(WR ro).inRound l=WR (some l):=rfl
 rw[hF]
 refine Go.wpIn_mono (ga (some l) I w {tmps:=_,defers:=[]} k ht0 (by simp)) ?_
 rintro e a1 w1 ⟨rfl,J1,W1,t1,ms1, -, -⟩
 have Us:J1.at_ r none=some (l,0):=W1.grows.le.at_ _ _ _ hat
 obtain⟨U6,vo,u6,vi,iZ,iW⟩:=EO W1.rel hg1 Us
 have S1:=KB (L':=busy L1) W1.rel hg1 Us hlo rfl rfl rfl rfl rfl _ iW
 refine⟨_,?_,Go.wpIn_mono (gb (some l) J1 _ a1 S1.rel t1 (by simp)) ?_⟩
 ·rw[gH]at iW
  simp[Instr.beginRound,Instr.getLoop,getObj,setObj,Sem.run,iW,busy]
 ·rintro e a2 w2 ⟨rfl,J2,W2,t2,ms2, -, -⟩
  have ZB:J2.at_ r none=some (l,0):=W2.grows.le.at_ _ _ _ Us
  obtain⟨jS,vn,qU,vg,iY,mj⟩:=EO W2.rel hg2 ZB
  have S2:=KB (L':=ended L2 p) W2.rel hg2 ZB hlo rfl rfl rfl rfl rfl _ mj
  have hend:=KQ (P:=P) (p:=p) mj
  have hfin:=hK J2 _ (((W1.trans S1 hq1.next).trans W2 (Nat.le_trans hq1.next (Nat.le_refl _))).trans S2 (Nat.le_trans hq1.next hq2.next)) (by simp[In])
  simp only[ren]at hfin
  cases e<;>simp only[roundEnd,Option.some.injEq,reduceCtorEq]at hp
  all_goals subst hp;exact⟨_,_,hend,hfin⟩

end
end AE

/- Walks that may come to one of many ends: for code that chooses its order (ranges over maps). -/
namespace AE
open Go Go.RowKit

def WD (T:Tr) (n lo:Nat) (Q:Exit->Ts->H->Prop) (ts:Ts) (h:H):Prop:=
 ∀ro I w a,Rel I h w->Bv I n ts a.tmps->T ro (fun e a' w'=>∃ts' h' J,Q e ts' h'/\Quiet lo h h'/\BR I J lo h.next h' w w'/\Bv J n ts' a'.tmps/\∃ms,a'.defers=ms++a.defers/\Marks J w w' ms) a w

theorem WT.wd {T:Tr}{n lo:Nat}{Q:Exit->Ts->H->Prop}{ts:Ts}{h:H}(m:Rj T) (a:WT T n lo Q ts h):WD T n lo Q ts h:=by
 obtain⟨e,ts',h',q,hq,g⟩:=a
 intro ro I w a k t
 refine m _ _ _ ?_ _ _ (g ro I w a k t)
 rintro e' a' w' ⟨rfl,J,hw,t',ms⟩
 exact⟨ts',h',J,q,hq,hw,t',ms⟩

theorem WD.mono {T:Tr}{n lo:Nat}{Q Q':Exit->Ts->H->Prop}{ts:Ts}{h:H}(m:Rj T) (a:WD T n lo Q ts h) (hq:∀e ts h,Q e ts h->Q' e ts h):WD T n lo Q' ts h:=by
 intro ro I w b k t
 refine m _ _ _ ?_ _ _ (a ro I w b k t)
 rintro e' a' w' ⟨ts',h',J,q,r⟩
 exact⟨ts',h',J,hq _ _ _ q,r⟩

theorem WD.then {T1 T2 T:Tr}{n lo:Nat}{Q:Exit->Ts->H->Prop}{ts:Ts}{h:H}(m1:Rj T1) (m2:Rj T2) (hT:∀ro Q a w,T1 ro (Exit.then (T2 ro Q) Q) a w->T ro Q a w)
 (a:WD T1 n lo (Da (WD T2 n lo Q) Q) ts h):WD T n lo Q ts h:=by
 intro ro I w b k t
 refine hT _ _ _ _ (m1 _ _ _ ?_ _ _ (a ro I w b k t))
 rintro e' a' w' ⟨FC,h1,J,q,hq,hw,t',ms,hd,hms⟩
 by_cases he:e'= .normal
 ·subst he
  refine m2 _ _ _ ?_ _ _ (q ro J w' a' hw.rel t')
  rintro e'' a'' w'' ⟨Wm,h2,K,q2,hq2,hw',t'',ms',hd',gJ⟩
  exact⟨Wm,h2,K,q2,hq.trans hq2,hw.trans hw' hq.next,t'',ms'++ms,by rw[hd',hd,List.append_assoc],hms.append (I:=I) gJ hw' hw.ext.size⟩
 ·cases e'<;>first|exact absurd rfl he|exact⟨FC,h1,J,q,hq,hw,t',ms,hd,hms⟩

section
variable {tp:Bool}{P:Program}{n lo:Nat}{Q:Exit->Ts->H->Prop}{ts:Ts}{h:H}
theorem WD.loop {c:Code}(a:WD (TL tp P c) n lo Q ts h):WD (TC tp P (.loop c)) n lo Q ts h:=fun ro I w b k t=>V4 _ _ _ _ (a ro I w b k t)
theorem WD.round {c:Code}(a:WD (TC tp P c) n lo (Da (WD (TL tp P c) n lo Q) Q) ts h):WD (TL tp P c) n lo Q ts h:=WD.then (A8 tp P c) (V3 tp P c) Tg a
theorem WD.seq {x y:Code}(a:WD (TC tp P x) n lo (Da (WD (TC tp P y) n lo Q) Q) ts h):WD (TC tp P (.seq x y)) n lo Q ts h:=
 WD.then (A8 tp P x) (A8 tp P y) (fun _ _ _ _ h htp=>wpIn_seq (Go.wpIn_mono (h htp) (fun e _ _ q=>by cases e<;>first|exact q htp|exact q))) a
theorem WD.block {id:Nat}{c:Code}(a:WD (TC tp P c) n lo (C9 id Q) ts h):WD (TC tp P (.block id c)) n lo Q ts h:=by
 intro ro I w b k t htp
 refine wpIn_block (Go.wpIn_mono (a ro I w b k t htp) ?_)
 rintro e' a' w' ⟨ts',h',J,q,r⟩
 cases e'<;>try exact⟨ts',h',J,q,r⟩
 rename_i id'
 simp only[Exit.inBlock]
 simp only[C9]at q
 split
 ·rename_i he;rw[if_pos he]at q;exact⟨ts',h',J,q,r⟩
 ·rename_i he;rw[if_neg he]at q;exact⟨ts',h',J,q,r⟩
theorem WD.cond {c:Operand}{c':AP}{x y:Code}{b:Bool}(hc:AJ c=some c') (hb:ev ts c'= .bool b) (a:WD (TC tp P (if b then x else y)) n lo Q ts h):WD (TC tp P (.cond c x y)) n lo Q ts h:=by
 intro ro I w d k t htp
 refine wpIn_cond (t:=b) ?_ (a ro I w d k t htp)
 rw[(t.ev c c' hc).1,hb];simp[ren]
end

def Al.below (J:Al) (n:Nat):Al:=⟨fun r s=>if r<n then J.at_ r s else none,J.cap,J.base⟩
theorem Al.Cz {J:Al}{n r:Nat}{s:Option Nat}(h:r<n):(J.below n).at_ r s=J.at_ r s:=if_pos h
theorem Al.AU {J:Al}{n r:Nat}{s:Option Nat}{p:Nat × Nat}(h:(J.below n).at_ r s=some p):r<n/\J.at_ r s=some p:=by
 replace h:(if r<n then J.at_ r s else none)=some p:=h
 by_cases hr:r<n
 ·rw[if_pos hr]at h;exact⟨hr,h⟩
 ·rw[if_neg hr]at h;exact absurd h (by simp)
theorem Al.below_le (J:Al) (n:Nat):Le (J.below n) J:=⟨fun _ _ _ h=>(Al.AU h).2,fun _ _ _ _=>rfl,rfl⟩
theorem Le.below {I J:Al}{n:Nat}(h:Le I J) (hn:∀r,I.dom r->r<n):Le I (J.below n):=
 ⟨fun r s p e=>by rw[Al.Cz (hn r ⟨s,p,e⟩)];exact h.at_ r s p e,h.cap,h.base⟩
theorem Bw.below {I J:Al}{n r:Nat}{w w':World}{row:A9}(hI:Le I (J.below n)) (hr:r<n) (k:Bw I r w row) (k':Bw J r w' row):Bw (J.below n) r w' row:=by
 have hb:=J.below_le n
 cases row with
 | cells c e=>
   obtain⟨b,e1,e2,e3⟩:=k'.2
   have i:=(hI.Ah c k.1).2
   exact⟨i,b,(Al.Cz hr).trans e1,e2,by rw[e3,(hb.Ah c i).1]⟩
 | ro c=>
   obtain⟨b,d,e1,e2⟩:=k'.2
   have i:=(hI.Ah c k.1).2
   exact⟨i,b,d,(Al.Cz hr).trans e1,fun j v hj=>by rw[e2 j v hj,(hb.ren v (Eb i hj)).1]⟩
 | grow c e sz lens valid=>
   obtain⟨-,h1,h2,hgen,hof,h3⟩:=k'
   have i:=(hI.Ah c k.1).2
   refine⟨i,h1,h2,fun g p e=>hgen g p (Al.AU e).2,fun g g' b d d' v v' e e'=>hof g g' b d d' v v' (Al.AU e).2 (Al.AU e').2,fun g hg hl=>?_⟩
   obtain⟨b,d,C,e1,e2,e3,e4,e5,e6⟩:=h3 g hg hl
   exact⟨b,d,C,(Al.Cz hr).trans e1,e2,e3,e4,e5,by rw[<-(hb.Ah c i).1];exact e6⟩
 | map es clock=>
   obtain⟨b,e1,e2,e3⟩:=k'.2
   have i:∀e∈es,eN (J.below n) e:=fun e he=>⟨(hI.ren _ (k.1 e he).1).2,(hI.ren _ (k.1 e he).2).2⟩
   refine⟨i,b,(Al.Cz hr).trans e1,e2,?_⟩
   rw[e3]
   congr 3
   exact List.map_congr_left fun e he=>by unfold B0;rw[(hb.ren _ (i e he).1).1,(hb.ren _ (i e he).2).1]
 | iter m since seen c0=>
   obtain⟨b,bm,e1,e2,e3,e4⟩:=k'
   obtain⟨b0,vt,f1,f2,f3,f4⟩:=k
   exact⟨b,bm,(Al.Cz hr).trans e1,e2,by have:=hI.at_ _ _ _ f3;have h3:=(Al.AU this).2;rw[e3]at h3;simp at h3;subst h3;exact this,e4⟩
 | Ki s p=>
   obtain⟨b,e1,e2,e3⟩:=k'
   exact⟨b,(Al.Cz hr).trans e1,e2,e3⟩
 | loop l=>
   obtain⟨-,tm, -, -, -, -,t0, -⟩:=k
   obtain⟨b,tmps,db,fn,e1,e2,e3,e5⟩:=k'
   refine⟨b,tmps,db,fn,(Al.Cz hr).trans e1,e2,⟨e3.1,fun i=>?_⟩,e5⟩
   have i0:=(hI.ren _ (t0.2 i).2).2
   exact⟨by rw[(e3.2 i).1,(hb.ren _ i0).1],i0⟩
 | defers=>
   obtain⟨b,e1,e2,e3⟩:=k'
   exact⟨b,(Al.Cz hr).trans e1,e2,e3⟩
 |gone=>trivial
theorem BR.below {I J:Al}{lo:Nat}{h h':H}{w w':World}(k:Rel I h w) (a:BR I J lo h.next h' w w') (hs:∀r,r<h.next->h'.get r=h.get r):BR I (J.below h.next) lo h.next h w w':=by
 have hI:Le I (J.below h.next):=a.grows.le.below k.lt
 refine⟨⟨hI,fun r s b d e=>a.grows.new r s b d (Al.AU e).2⟩,fun r ⟨s,p,e⟩=>a.dom r ⟨s,p,(Al.AU e).2⟩,fun r s p hr e=>a.old r s p hr (Al.AU e).2,?_,a.ext⟩
 refine⟨fun r row hr ⟨s,p,e⟩=>?_,fun r ⟨s,p,e⟩=>(Al.AU e).1,fun r s b d e=>a.rel.size r s b d (Al.AU e).2,a.rel.base,a.rel.tabs,fun r r' s s' b d d' e e' hb=>a.rel.inj r r' s s' b d d' (Al.AU e).2 (Al.AU e').2 hb,k.clean⟩
 obtain⟨hlt,e⟩:=Al.AU e
 have hd:I.dom r:=(a.dom r ⟨s,p,e⟩).resolve_right (by omega)
 exact(k.rows r row hr hd).below hI hlt (a.rel.rows r row (by rw[hs r hlt];exact hr) ⟨s,p,e⟩)

theorem WD.strong {T:Tr}{n lo:Nat}{Q:Exit->Ts->H->Prop}{ts:Ts}{h:H}(m:Rj T) (a:WD T n lo Q ts h):WD T n lo (fun e ts' h'=>Q e ts' h'/\Quiet lo h h') ts h:=by
 intro ro I w b k t
 refine m _ _ _ ?_ _ _ (a ro I w b k t)
 rintro e' a' w' ⟨ts',h',J,q,hq,r⟩
 exact⟨ts',h',J,⟨q,hq⟩,hq,r⟩


def nextQ (lo:Nat) (x:AP) (a b:Nat) (Q:Ts->H->Prop) (ts:Ts) (h:H):Prop:=
 ∃r m since seen c0 es clock,ev ts x= .pointer (some ⟨r,0,none⟩)/\lo<=r/\r≠m/\h.get r=some (.iter m since seen c0)/\h.get m=some (.map es clock)/\(∀e∈es,e.born<since)/\since<=c0/\
  ((∀e∈es,e.born∈seen)->Q (GL (GL ts a (.tuple #[.bool false])) b (.bool false)) h)/\
  (∀e∈es,e.born∉seen->Q (GL (GL ts a (.tuple #[.bool true,e.key,e.val])) b (.bool true)) (h.put r (.iter m since (seen++[e.born]) clock)))

theorem But.jV (w:World) (b:Nat) (o:Obj):But b w (ChangeMaps.setBlock w b o):=by
 refine⟨rfl,rfl,rfl,by simp[ChangeMaps.setBlock],fun k hk=>?_⟩
 simp only[ChangeMaps.setBlock]
 rw[Array.getElem?_setIfInBounds_ne (fun e=>hk e.symm)]
theorem But.mz {b:Nat}{w w':World}(h:But b w.drew w'):But b w w':=⟨h.os,h.tape,h.output,h.size,h.block⟩

theorem Xa {I:Al}{es:List MapEntry}{seen:List Nat}(h:(leftOf ⟨es.map (B0 I)⟩ ⟨seen⟩).size=0):∀e∈es,e.born∈seen:=by
 intro e he
 have:=all_seen ⟨es.map (B0 I)⟩ ⟨seen⟩ h (B0 I e) (by simpa using⟨e,he,rfl⟩)
 simpa[B0]using this
theorem W9 {I:Al}{es:List MapEntry}{seen:List Nat}{e':MapEntry}(h:e'∈(leftOf ⟨es.map (B0 I)⟩ ⟨seen⟩).toList):∃e∈es,e'=B0 I e/\e.born∉seen:=by
 obtain⟨h1,h2⟩:=mem_left h
 simp only[List.mem_map]at h1
 obtain⟨e,he,rfl⟩:=h1
 exact⟨e,he,rfl,by simpa[B0]using h2⟩

theorem WD.next {tp:Bool}{P:Program}{n lo id:Nat}{ops:Array Oper}{x:Operand}{x':AP}{a b:Nat}{o1 o2:Oper}{Q:Exit->Ts->H->Prop}{ts:Ts}{h:H}(ho:ops.toList=[o1,o2])
 (h1:o1.op= .next x false) (d1:o1.dst=some a) (g1:o1.guard=none) (h2:o2.op= .extract (.tmp a) 0) (d2:o2.dst=some b) (g2:o2.guard=none) (ha:a<n) (hb:b<n) (hx:AJ x=some x')
 (hw:nextQ lo x' a b (Q .normal) ts h):WD (TC tp P (.region id ops false)) n lo Q ts h:=by
 obtain⟨r,m,since,seen,c0,es,clock,e1,hlo,hrm,hg,hgm,hold,hsc,hw0,hw1⟩:=hw
 intro ro I w act k t _
 refine wpIn_region ?_
 obtain⟨ops⟩:=ops
 simp only at ho
 subst ho
 have hr2:List.range (#[o1,o2]:Array Oper).size=[0,1]:=rfl
 rw[hr2]
 obtain⟨e2,i2⟩:=t.ev x x' hx
 rw[e1]at e2 i2
 simp only[In,Jt]at i2
 obtain⟨p0,hp0⟩:=i2
 obtain⟨bi,bm,hat,hbase,Xk,hheap⟩:=k.rows _ _ hg ⟨_,_,hp0⟩
 obtain⟨ie,vu,NV,gP,Uq⟩:=k.rows _ _ hgm ⟨_,_,Xk⟩
 rw[Xk]at NV;simp at NV;subst NV
 simp only[ren,Cx,hat,Nat.add_zero]at e2
 have gE:∀c:Act,Region.wanted o1 (yielded #[o1,o2] c.tmps)=true:=fun c=>by simp[Region.wanted,g1]
 have gD:∀c:Act,Region.wanted o2 (yielded #[o1,o2] c.tmps)=true:=fun c=>by simp[Region.wanted,g2]
 have hd1:∀c,o1.op≠ .defer c:=by simp[h1]
 have hd2:∀c,o2.op≠ .defer c:=by simp[h2]
 -- the rest, from a world in which the heap lies
 have fin:∀(v:Value) (tl:List Value) (bb:Bool) (h':H) (w':World),v= .tuple ⟨.bool bb::tl⟩->BH I tl->Rel I h' w'->Quiet lo h h'->Ext I lo w w'->Q .normal (GL (GL ts a v) b (.bool bb)) h'->
  wpOpsIn (WR ro) 0 P #[o1,o2] (fun e a' w'=>∃ts' h' J,Q e ts' h'/\Quiet lo h h'/\BR I J lo h.next h' w w'/\Bv J n ts' a'.tmps/\∃ms,a'.defers=ms++act.defers/\Marks J w w' ms) [1] (act.put o1.dst (ren I v)) w':=by
  rintro v tl bb h' w' rfl uC k' hq hext q
  have iv:In I (.tuple ⟨.bool bb::tl⟩):=by simp[In,BH,uC]
  have t1:Bv I n (EY ts (.tuple ⟨.bool bb::tl⟩) (some a)) (act.put (some a) (ren I (.tuple ⟨.bool bb::tl⟩))).tmps:=t.put iv (by simp[IZ,ha])
  rw[d1]
  simp only[wpOpsIn,List.getElem?_toArray,List.getElem?_cons_succ,List.getElem?_cons_zero,gD,if_true]
  obtain⟨r6,vZ⟩:=t1.ev (.tmp a) (.t a) rfl
  have hva:ev (EY ts (.tuple ⟨.bool bb::tl⟩) (some a)) (.t a)= .tuple ⟨.bool bb::tl⟩:=by simp[ev,EY,GL]
  rw[hva]at r6
  have hrun:(execOp (act.put (some a) (ren I (.tuple ⟨.bool bb::tl⟩))).eval o2).run P w'= .ok (.value (.bool bb)) w':=by
   simp only[execOp,h2,r6]
   simp[Instr.extract,ren,Ah]
  refine FW (v:=.bool bb) hd2 hrun (.inl rfl) ?_
  have t2:=t1.put (v:=.bool bb) (dst:=some b) (by simp[In]) (by simp[IZ,hb])
  rw[d2]
  refine⟨_,h',I,q,hq,⟨BA.refl I w,fun _ d=>.inl d,fun _ _ _ _ e=>e,k',hext⟩,?_,[],?_,Marks.nil _ _ _⟩
  ·simpa[ren,EY]using t2
  ·rw[Act.Cd,Act.Cd];rfl
 simp only[wpOpsIn,List.getElem?_toArray,List.getElem?_cons_zero,gE,if_true]
 have hnext:=run_next_at (P:=P) w o1.type bi bm since c0 ⟨seen⟩ ⟨es.map (B0 I)⟩ clock hheap Uq (by
  intro y hy
  simp only[List.mem_map]at hy
  obtain⟨e,he,rfl⟩:=hy
  exact hold e he) hsc
 rcases hnext with⟨hz,hrun⟩|⟨e',he',w1,lg,hrun⟩
 ·have Zu:(execOp act.eval o1).run P w= .ok (.value (ren I (.tuple ⟨[.bool false]⟩))) w:=by
   simp[execOp,h1,e2,hrun,ren,Ah]
  refine FW hd1 Zu (.inl rfl) ?_
  exact fin _ [] false h w rfl (by simp[BH]) k (Quiet.refl lo h) (Ext.refl I lo w) (hw0 (Xa hz))
 ·obtain⟨e,he,rfl,hns⟩:=W9 he'
  have hin:=ie e he
  have Zu:(execOp act.eval o1).run P w= .ok (.value (ren I (.tuple ⟨[.bool true,e.key,e.val]⟩))) (ChangeMaps.setBlock w1 bi (.mapIter (some bm) since ((⟨seen⟩:Array Nat).push e.born) clock)):=by
   simp[execOp,h1,e2,hrun,ren,Ah,B0]
  refine FW hd1 Zu (.inl rfl) ?_
  have B2:But bi w (ChangeMaps.setBlock w1 bi (.mapIter (some bm) since ((⟨seen⟩:Array Nat).push e.born) clock)):=by
   rcases lg with rfl|rfl
   ·exact But.jV _ _ _
   ·exact(But.jV _ _ _).mz
  have hlt:bi<w1.heap.size:=by
   have:=k.size _ _ _ _ hat
   rcases lg with rfl|rfl<;>exact this
  have hnew:(ChangeMaps.setBlock w1 bi (.mapIter (some bm) since ((⟨seen⟩:Array Nat).push e.born) clock)).heap[bi]? =some (.mapIter (some bm) since ⟨seen++[e.born]⟩ clock):=by
   simp[ChangeMaps.setBlock,hlt]
  refine fin _ [e.key,e.val] true (h.put r (.iter m since (seen++[e.born]) clock)) _ rfl (by simp[BH,hin.1,hin.2]) ?_ ?_ (B2.ext hlo hat hbase) (hw1 e he hns)
  ·exact k.store hbase ⟨_,_,hat⟩ B2 ⟨bi,bm,hat,hbase,Xk,hnew⟩
  ·refine⟨Nat.le_refl _,fun r' hr'=>?_,fun hc r' hr'=>?_⟩
   ·simp only[H.put];rw[if_neg (by omega)]
   ·simp only[H.put]
    rw[if_neg]
    ·exact hc r' hr'
    ·rintro rfl
     have:=k.lt r' ⟨_,_,hp0⟩
     have:h.next<=r':=hr'
     omega

end AE

/- Code, compiled; its weakest precondition; a function's contract out of its body. -/
namespace AE
open Go Go.RowKit

def Td (ops:Array Oper) (xs:List Ao):List (AP × AP):=
 let ms:=masks ops xs.length
 (List.range xs.length).flatMap fun j=>(List.range j).flatMap fun i=>match xs[i]?,xs[j]? with
  |some x,some y=>if ord ms i j||J7 xs i j x y then[]else clash xs i j x y
  |_,_=>[]

def Z1 (P:Program) (n:Nat) (ops:Array Oper) (draw:Bool):Option Aj:=
 (Cf P n ops ops.toList).bind fun xs=>if draw then(if ZQ ops xs (Td ops xs)then some (.Ck xs (Td ops xs))else none)else some (.reg xs)

def Ao.uE (x:Ao):Bool:=match x.ins with|.call (.t _) _=>true|_=>false
def S6 (P:Program) (n:Nat) (ops:Array Oper):Option Aj:=
 (Cf P n ops ops.toList).bind fun xs=>(xs.findIdx? Ao.uE).bind fun c=>if VR ops c then(Cf P n (ops.extract 0 c) (ops.extract 0 c).toList).bind fun xs1=>
  if ZQ (ops.extract 0 c) xs1 (Td (ops.extract 0 c) xs1)then some (.seq (.Ck xs1 (Td (ops.extract 0 c) xs1)) (.reg (xs.drop c)))else none else none

def VW (n:Nat) (ops:Array Oper):Option Aj:=match ops.toList with
 | [o1,o2]=>match o1.op,o1.dst,o1.guard,o2.op,o2.dst,o2.guard with
   |.next x false,some a,none,.extract (.tmp a') 0,some b,none=>if a'=a/\a<n/\b<n then(AJ x).map fun x'=>.next x' a b else none
   |_,_,_,_,_,_=>none
 |_=>none
theorem J3 {n:Nat}{ops:Array Oper}{A:Aj}(h:VW n ops=some A):∃o1 o2 x x' a b,ops.toList=[o1,o2]/\o1.op= .next x false/\o1.dst=some a/\o1.guard=none/\o2.op= .extract (.tmp a) 0/\o2.dst=some b/\o2.guard=none/\a<n/\b<n/\AJ x=some x'/\A= .next x' a b:=by
 unfold VW at h
 split at h
 ·rename_i o1 o2 ho
  split at h
  ·rename_i x a a' b h1 h2 h3 h4 h5 h6
   split at h
   ·rename_i hc
    obtain⟨rfl,ha,hb⟩:=hc
    simp only[Option.map_eq_some_iff]at h
    obtain⟨x',hx,rfl⟩:=h
    exact⟨o1,o2,x,x',a',b,ho,h1,h2,h3,h4,h5,h6,ha,hb,hx,rfl⟩
   ·simp at h
  ·simp at h
 ·simp at h

def Aj.N7:Aj->Bool
 |.seq a b|.cond _ a b=>a.N7&&b.N7
 |.block _ c|.loop c=>c.N7
 |.next _ _ _=>false
 |_=>true

def ek:Aj:=.cond (.c (.int .i64 0)) .skip .skip

def AZ (P:Program) (n:Nat):Bool->Code->Option Aj
 |_,.skip=>some .skip
 |_,.label _=>some .skip
 |_,.ret=>some .ret
 |_,.exit id=>some (.exit id)
 |tp,.seq a b=>(AZ P n tp a).bind fun x=>(AZ P n tp b).map (.seq x)
 |tp,.cond c a b=>(AJ c).bind fun c'=>(AZ P n tp a).bind fun x=>(AZ P n tp b).map (.cond c' x)
 |tp,.block id c=>(AZ P n tp c).map (.block id)
 |tp,.loop c=>(AZ P n tp c).map .loop
 |tp,.scope c=>(AZ P n tp c).bind fun A=>if A.N7 then some A else none
 | _,.region _ ops draw=>match(if draw then S6 P n ops else none)with
   |some A=>some A
   | none=>match Z1 P n ops draw with
     |some A=>some A
     |none=>if draw then none else VW n ops
 |tp,.rangeFunc f ps CB body=>if tp=true/\ps.toList.all (fun p=>decide (p<n))=true then(AJ f).bind fun f'=>(AZ P n false CB).bind fun A=>(AZ P n false body).map fun B=>.range f' ps.toList n CB body A B else none
 |_,_=>some ek

def E2 (P:Program) (n:Nat) (tp:Bool) (C:Code):Option Aj:=(AZ P n tp C).bind fun A=>if A.N7 then some A else none
theorem Gf {P:Program}{n:Nat}{tp:Bool}{C:Code}{A:Aj}(h:E2 P n tp C=some A):AZ P n tp C=some A/\A.N7=true:=by
 simp only[E2,Option.bind_eq_some_iff]at h
 obtain⟨B,hB,h⟩:=h
 split at h
 ·rename_i hd
  simp only[Option.some.injEq]at h
  subst h
  exact⟨hB,hd⟩
 ·simp at h

def iter (F:(Ts->H->Prop)->Ts->H->Prop):Nat->Ts->H->Prop
 |0=>fun _ _=>False
 |k+1=>F (iter F k)

def DV (P:Program) (lo:Nat):Aj->(Exit->Ts->H->Prop)->Ts->H->Prop
 |.skip,Q=>Q .normal
 |.ret,Q=>Q .ret
 |.exit id,Q=>Q (.exit id)
 |.seq a b,Q=>DV P lo a (Da (DV P lo b Q) Q)
 |.cond c a b,Q=>fun ts h=>∃t,ev ts c= .bool t/\if t=true then DV P lo a Q ts h else DV P lo b Q ts h
 |.block id c,Q=>DV P lo c (C9 id Q)
 |.loop c,Q=>fun ts h=>∃k,iter (fun K=>DV P lo c (Da K Q)) k ts h
 |.reg ops,Q=>fun ts h=>Run P lo false h.next 0 ops (Q .normal) ts (h.bump ops.length)
 |.Ck ops ap,Q=>fun ts h=>Run P lo true h.next 0 ops (fun ts' h'=>Apart ap ts'/\Q .normal ts' h') ts (h.bump ops.length)
 |.range f ps n CB body _ _,Q=>fun ts h=>∃g first BL,ev ts f= .func (.func g) ⟨first⟩ ⟨BL⟩/\∃v h',AF P g lo (h.enter (FD n ts ps CB body)) (first++[.func (.yield h.next) ⟨[]⟩ ⟨[]⟩]++BL) v h'/\
  ∃L,h'.get h.next=some (.loop L)/\L.state≠ .busy/\Q (F0 L.pend) ts (h'.put h.next .gone)
 |.next x a b,Q=>nextQ lo x a b (Q .normal)

section
variable {P:Program}{n lo:Nat}

theorem WT.strong {T:Tr}{Q:Exit->Ts->H->Prop}{ts:Ts}{h:H}(a:WT T n lo Q ts h):WT T n lo (fun e ts' h'=>Q e ts' h'/\Quiet lo h h') ts h:=
 let⟨e,ts',h',q,hq,g⟩:=a;⟨e,ts',h',⟨q,hq⟩,hq,g⟩

def ng (Q:Exit->Ts->H->Prop):Exit->Ts->H->Prop:=fun e ts h=>(∀l,e≠ .goto l)/\Q e ts h

theorem JP {P:Program}{n:Nat}{tp:Bool}{c:Code}{A:Aj}(h:AZ P n tp (.scope c)=some A):AZ P n tp c=some A/\A.N7=true:=by
 simp only[AZ,Option.bind_eq_some_iff]at h
 obtain⟨B,hB,h⟩:=h
 split at h
 ·rename_i hd
  simp only[Option.some.injEq]at h
  subst h
  exact⟨hB,hd⟩
 ·simp at h
theorem Iw {P:Program}{n id:Nat}{tp draw:Bool}{ops:Array Oper}{A:Aj}(h:AZ P n tp (.region id ops draw)=some A):(draw=true/\S6 P n ops=some A)\/Z1 P n ops draw=some A\/(draw=false/\VW n ops=some A):=by
 simp only[AZ]at h
 split at h
 ·rename_i B hB
  split at hB
  ·rename_i hd
   exact .inl ⟨hd,by rw[hB];exact h⟩
  ·simp at hB
 ·right
  split at h
  ·rename_i B hB
   left;rw[hB];exact h
  ·split at h
   ·simp at h
   ·rename_i hd
    exact .inr ⟨by simpa using hd,h⟩
theorem dh {P:Program}{n lo id:Nat}{tp:Bool}{ops:Array Oper}{A:Aj}{Q:Exit->Ts->H->Prop}{ts:Ts}{h:H}(hm:P.follows .mixedOrders=true) (hc:S6 P n ops=some A) (hl:lo<=h.next) (hw:DV P lo A Q ts h):WT (TC tp P (.region id ops true)) n lo (ng Q) ts h:=by
 simp only[S6,Option.bind_eq_some_iff]at hc
 obtain⟨xs,hxs,c,hfc,hc⟩:=hc
 split at hc
 ·rename_i hcut
  simp only[Option.bind_eq_some_iff]at hc
  obtain⟨xs1,Xj,hc⟩:=hc
  split at hc
  ·rename_i hd
   simp only[Option.some.injEq]at hc
   subst hc
   have C:=N9 hcut
   have hcs:=C.inn
   refine(WT.cV hm C hxs (by simp;omega) (fun i hi=>?_) Xj hd hl (Q:=fun e ts h=>e= .normal/\Q .normal ts h) ?_).mono ?_
   ·rw[Array.getElem?_extract]
    rw[if_pos (by omega)]
    simp
   ·simp only[DV,Da]at hw
    simpa using hw
   ·rintro e ts' h' ⟨rfl,q⟩
    exact⟨by simp,q⟩
  ·simp at hc
 ·simp at hc
theorem Z6 {P:Program}{n:Nat}{ops:Array Oper}{A:Aj}(hc:S6 P n ops=some A):A.N7=true:=by
 simp only[S6,Option.bind_eq_some_iff]at hc
 obtain⟨xs,hxs,c,hfc,hc⟩:=hc
 split at hc
 ·simp only[Option.bind_eq_some_iff]at hc
  obtain⟨xs1,Xj,hc⟩:=hc
  split at hc
  ·simp only[Option.some.injEq]at hc
   subst hc;rfl
  ·simp at hc
 ·simp at hc

theorem Tw (hm:P.follows .mixedOrders=true):∀(C:Code) (tp:Bool) (A:Aj) (Q:Exit->Ts->H->Prop) (ts:Ts) (h:H),AZ P n tp C=some A->A.N7=true->lo<=h.next->DV P lo A Q ts h->WT (TC tp P C) n lo (ng Q) ts h:=by
 intro C
 induction C with
 |skip=>intro tp A Q ts h hc hd hl hw;simp[AZ]at hc;subst hc;exact WT.skip ⟨by simp,hw⟩
 |label l=>intro tp A Q ts h hc hd hl hw;simp[AZ]at hc;subst hc;exact WT.label ⟨by simp,hw⟩
 |ret=>intro tp A Q ts h hc hd hl hw;simp[AZ]at hc;subst hc;exact WT.ret ⟨by simp,hw⟩
 |exit id=>intro tp A Q ts h hc hd hl hw;simp[AZ]at hc;subst hc;exact WT.exit ⟨by simp,hw⟩
 | scope c ih=>
   intro tp A Q ts h hc hd hl hw
   refine WT.scope ((ih tp A Q ts h (JP hc).1 hd hl hw).mono ?_)
   rintro e ts' h' ⟨hg,q⟩
   exact⟨hg,hg,q⟩
 | seq x y NQ ihy=>
   intro tp A Q ts h hc hd hl hw
   simp only[AZ,Option.bind_eq_some_iff,Option.map_eq_some_iff]at hc
   obtain⟨a,ha,b,hb,rfl⟩:=hc
   simp only[Aj.N7,Bool.and_eq_true]at hd
   refine WT.seq ((NQ tp a _ ts h ha hd.1 hl hw).strong.mono ?_)
   rintro e ts' h' ⟨⟨hg,q⟩,hq⟩
   cases e<;>first|exact⟨hg,q⟩|exact ihy tp b Q ts' h' hb hd.2 (Nat.le_trans hl hq.next) q
 | cond c x y NQ ihy=>
   intro tp A Q ts h hc hd hl hw
   simp only[AZ,Option.bind_eq_some_iff,Option.map_eq_some_iff]at hc
   obtain⟨c',hc',a,ha,b,hb,rfl⟩:=hc
   simp only[Aj.N7,Bool.and_eq_true]at hd
   obtain⟨t,ht,hw⟩:=hw
   refine WT.cond hc' ht ?_
   cases t
   ·exact ihy tp b Q ts h hb hd.2 hl (by simpa using hw)
   ·exact NQ tp a Q ts h ha hd.1 hl (by simpa using hw)
 | block id c ih=>
   intro tp A Q ts h hc hd hl hw
   simp only[AZ,Option.map_eq_some_iff]at hc
   obtain⟨a,ha,rfl⟩:=hc
   refine WT.block ((ih tp a _ ts h ha (by simpa[Aj.N7]using hd) hl hw).mono ?_)
   rintro e ts' h' ⟨hg,q⟩
   cases e<;>first|exact⟨hg,q⟩|skip
   rename_i id'
   simp only[C9]at q⊢
   split
   ·rename_i hid;rw[if_pos hid]at q;exact⟨by simp,q⟩
   ·rename_i hid;rw[if_neg hid]at q;exact⟨by simp,q⟩
 | loop c ih=>
   intro tp A Q ts h hc hd hl hw
   simp only[AZ,Option.map_eq_some_iff]at hc
   obtain⟨a,ha,rfl⟩:=hc
   obtain⟨k,hw⟩:=hw
   refine WT.loop ?_
   induction k generalizing ts h with
   |zero=>exact hw.elim
   | succ k ihk=>
     refine WT.round ((ih tp a _ ts h ha (by simpa[Aj.N7]using hd) hl hw).strong.mono ?_)
     rintro e ts' h' ⟨⟨hg,q⟩,hq⟩
     cases e<;>first|exact⟨hg,q⟩|exact ihk ts' h' (Nat.le_trans hl hq.next) q
 | region id ops draw=>
   intro tp A Q ts h hc hd hl hw
   rcases Iw hc with⟨rfl,hc2⟩|hc2
   ·exact dh hm hc2 hl hw
   clear hc
   rcases hc2 with hc|hc
   case inr=>
    obtain⟨_,_,_,_,_,_,_,_,_,_,_,_,_,_,_,_,rfl⟩:=J3 hc.2
    simp[Aj.N7]at hd
   simp only[Z1,Option.bind_eq_some_iff]at hc
   obtain⟨xs,hxs,hc⟩:=hc
   cases draw
   ·simp at hc;subst hc
    refine(WT.reg hxs hl (Q:=fun e ts h=>e= .normal/\Q .normal ts h) (q:=false) (by simp only[DV]at hw;simpa using hw)).mono ?_
    rintro e ts' h' ⟨rfl,q⟩
    exact⟨by simp,q⟩
   ·simp only[if_true]at hc
    split at hc
    ·rename_i hdd
     simp at hc;subst hc
     refine(WT.Ck hm hxs hdd hl (Q:=fun e ts h=>e= .normal/\Q .normal ts h) (by simp only[DV]at hw;simpa using hw)).mono ?_
     rintro e ts' h' ⟨rfl,q⟩
     exact⟨by simp,q⟩
    ·simp at hc
 | rangeFunc f ps x y NQ ihy=>
   intro tp A Q ts h hc hd hl hw
   simp only[AZ]at hc
   split at hc
   ·rename_i htp
    obtain⟨rfl, -⟩:=htp
    simp only[Option.bind_eq_some_iff,Option.map_eq_some_iff]at hc
    obtain⟨f',hf,a,ha,b,hb,rfl⟩:=hc
    obtain⟨g,first,BL,hv,v,h',lF,L,hL,hs,q⟩:=hw
    obtain⟨ps⟩:=ps
    exact WT.range hf hv hl lF hL hs ⟨by cases L.pend<;>simp[F0],q⟩
   ·simp at hc
 |_=>intro tp A Q ts h hc hd hl hw;simp[AZ]at hc;subst hc;obtain⟨t,ht, -⟩:=hw;simp[ev]at ht

theorem X7 (hm:P.follows .mixedOrders=true):∀(C:Code) (tp:Bool) (A:Aj) (Q:Exit->Ts->H->Prop) (ts:Ts) (h:H),AZ P n tp C=some A->lo<=h.next->DV P lo A Q ts h->WD (TC tp P C) n lo Q ts h:=by
 intro C
 have leaf:∀(C:Code) (tp:Bool) (A:Aj) (Q:Exit->Ts->H->Prop) (ts:Ts) (h:H),AZ P n tp C=some A->A.N7=true->lo<=h.next->DV P lo A Q ts h->WD (TC tp P C) n lo Q ts h:=fun C tp A Q ts h hc hd hl hw=>
  ((Tw hm C tp A Q ts h hc hd hl hw).wd (A8 tp P C)).mono (A8 tp P C) fun _ _ _ q=>q.2
 induction C with
 | seq x y NQ ihy=>
   intro tp A Q ts h hc hl hw
   simp only[AZ,Option.bind_eq_some_iff,Option.map_eq_some_iff]at hc
   obtain⟨a,ha,b,hb,rfl⟩:=hc
   refine WD.seq (((NQ tp a _ ts h ha hl hw).strong (A8 tp P x)).mono (A8 tp P x) ?_)
   rintro e ts' h' ⟨q,hq⟩
   cases e<;>first|exact q|exact ihy tp b Q ts' h' hb (Nat.le_trans hl hq.next) q
 | cond c x y NQ ihy=>
   intro tp A Q ts h hc hl hw
   simp only[AZ,Option.bind_eq_some_iff,Option.map_eq_some_iff]at hc
   obtain⟨c',hc',a,ha,b,hb,rfl⟩:=hc
   obtain⟨t,ht,hw⟩:=hw
   refine WD.cond hc' ht ?_
   cases t
   ·exact ihy tp b Q ts h hb hl (by simpa using hw)
   ·exact NQ tp a Q ts h ha hl (by simpa using hw)
 | block id c ih=>
   intro tp A Q ts h hc hl hw
   simp only[AZ,Option.map_eq_some_iff]at hc
   obtain⟨a,ha,rfl⟩:=hc
   exact WD.block (ih tp a _ ts h ha hl hw)
 | loop c ih=>
   intro tp A Q ts h hc hl hw
   simp only[AZ,Option.map_eq_some_iff]at hc
   obtain⟨a,ha,rfl⟩:=hc
   obtain⟨k,hw⟩:=hw
   refine WD.loop ?_
   induction k generalizing ts h with
   |zero=>exact hw.elim
   | succ k ihk=>
     refine WD.round (((ih tp a _ ts h ha hl hw).strong (A8 tp P c)).mono (A8 tp P c) ?_)
     rintro e ts' h' ⟨q,hq⟩
     cases e<;>first|exact q|exact ihk ts' h' (Nat.le_trans hl hq.next) q
 | region id ops draw=>
   intro tp A Q ts h hc hl hw
   by_cases hd:A.N7=true
   ·exact leaf _ tp A Q ts h hc hd hl hw
   ·rcases Iw hc with⟨-,hc⟩|hc|hc
    ·exact absurd (Z6 hc) hd
    ·exfalso
     simp only[Z1,Option.bind_eq_some_iff]at hc
     obtain⟨xs, -,hc⟩:=hc
     split at hc
     ·split at hc<;>simp at hc
      subst hc;simp[Aj.N7]at hd
     ·simp at hc;subst hc;simp[Aj.N7]at hd
    ·obtain⟨hdr,hc⟩:=hc
     obtain⟨o1,o2,x,x',a,b,ho,h1,d1,g1,h2,d2,g2,ha,hb,hx,rfl⟩:=J3 hc
     subst hdr
     exact WD.next ho h1 d1 g1 h2 d2 g2 ha hb hx hw
 | scope c ih=>
   intro tp A Q ts h hc hl hw
   refine leaf _ tp A Q ts h hc ?_ hl hw
   exact(JP hc).2
 |skip=>intro tp A Q ts h hc hl hw;exact leaf _ tp A Q ts h hc (by simp[AZ]at hc;subst hc;rfl) hl hw
 |label l=>intro tp A Q ts h hc hl hw;exact leaf _ tp A Q ts h hc (by simp[AZ]at hc;subst hc;rfl) hl hw
 |ret=>intro tp A Q ts h hc hl hw;exact leaf _ tp A Q ts h hc (by simp[AZ]at hc;subst hc;rfl) hl hw
 |exit id=>intro tp A Q ts h hc hl hw;exact leaf _ tp A Q ts h hc (by simp[AZ]at hc;subst hc;rfl) hl hw
 | rangeFunc f ps x y NQ ihy=>
   intro tp A Q ts h hc hl hw
   refine leaf _ tp A Q ts h hc ?_ hl hw
   simp only[AZ]at hc
   split at hc
   ·simp only[Option.bind_eq_some_iff,Option.map_eq_some_iff]at hc
    obtain⟨f',hf,a,ha,b,hb,rfl⟩:=hc
    rfl
   ·simp at hc
 |_=>intro tp A Q ts h hc hl hw;simp[AZ]at hc;subst hc;obtain⟨t,ht, -⟩:=hw;simp[ev]at ht

theorem Ld (hm:P.follows .mixedOrders=true) (C:Code) (A:Aj) (Q:Exit->Ts->H->Prop) (ts:Ts) (h:H) {tp:Bool}(hc:E2 P n tp C=some A) (hl:lo<=h.next) (hw:DV P lo A Q ts h):WT (TC tp P C) n lo Q ts h:=
 (Tw hm C tp A Q ts h (Gf hc).1 (Gf hc).2 hl hw).mono fun _ _ _ q=>q.2

def YA (P:Program) (lo r:Nat) (A B:Aj) (L:DN) (args:List Value) (h:H) (R:Value->H->Prop):Prop:=
 DV P lo A (fun e FC h1=>e= .normal/\∃L1,h1.get r=some (.loop L1)/\L1.state= .ready/\
  DV P lo B (fun e _ h2=>∃p L2,roundEnd e=some p/\h2.get r=some (.loop L2)/\R (.bool (Ku p)) (h2.put r (.loop (ended L2 p)))) FC (h1.put r (.loop (busy L1)))) (Gr L.params args L.tmps) h

theorem YA.call (hm:P.follows .mixedOrders=true) {r:Nat}{A B:Aj}{L:DN}{args:List Value}{h:H}{R:Value->H->Prop}(hA:E2 P L.size false L.CB=some A) (hB:E2 P L.size false L.body=some B) (hg:h.get r=some (.loop L))
 (hlo:lo<=r) (hr:r<h.next) (hlen:args.length=L.params.length) (hps:L.params.all (fun p=>decide (p<L.size))=true) (hw:YA P lo r A B L args h R):∃v h',R v h'/\Eg P (.func (.yield r) ⟨[]⟩ ⟨[]⟩) lo h args v h':=by
 refine Tt hg hlo hr hlen (fun p hp=>by simpa using List.all_eq_true.1 hps p hp) ?_
 refine(Ld hm _ A _ _ _ hA (by omega) hw).strong.mono ?_
 rintro e FC h1 ⟨⟨rfl,L1,hg1,hs1,hw1⟩,hq1⟩
 refine⟨rfl,L1,hg1,hs1,Ld hm _ B _ _ _ (by exact hB) ?_ hw1⟩
 have:=hq1.next
 show lo<=h1.next
 omega


def Qk (r:Nat):Code->Option (Array Oper)
 |.region id ops _=>if id=r then some ops else none
 |.seq a b|.cond _ a b|.rangeFunc _ _ a b=>(Qk r a).orElse fun _=>Qk r b
 |.block _ c|.loop c|.scope c=>Qk r c
 |_=>none
def Iz (f:Func) (r i:Nat):Oper:=((f.body.bind (Qk r)).bind (·[i]?)).getD default
def jD:Code->List (Code × Code)
 |.rangeFunc _ _ a b=>(a,b)::(jD a++jD b)
 |.seq a b|.cond _ a b=>jD a++jD b
 |.block _ c|.loop c|.scope c=>jD c
 |_=>[]
def bB (f:Func) (i:Nat):Code × Code:=((f.body.bind fun c=>(jD c)[i]?)).getD (.skip,.skip)


def Ef (P:Program) (h:H) (ts:Ts):ResultVar->Option Value
 |.tmp t=>some (ts t)
 | .cell a t=>match BU P t with
   |some true=>(sizeT P t).bind fun n=>GJ n h (ts a)
   |some false=>GK h (ts a)
   |none=>none
def E1 (P:Program) (h:H) (ts:Ts):List ResultVar->Option Value
 |[]=>some (.tuple #[])
 |[r]=>Ef P h ts r
 |[r,s]=>(Ef P h ts r).bind fun x=>(Ef P h ts s).map fun y=>.tuple #[x,y]
 |[r,s,t]=>(Ef P h ts r).bind fun x=>(Ef P h ts s).bind fun y=>(Ef P h ts t).map fun z=>.tuple #[x,y,z]
 |_=>none

def res1 (tmps:Array Value):ResultVar->Sem Value
 |.tmp t=>pure (tmps.getD t undef)
 |.cell a t=>do loadVar t (<-asAddr (tmps.getD a undef))

theorem GZ {I:Al}{ts:Ts}{h:H}{w:World}{tmps:Array Value}{r:ResultVar}{v:Value}(t:Bv I n ts tmps) (k:Rel I h w) (hv:Ef P h ts r=some v):In I v/\(res1 tmps r).run P w= .ok (ren I v) w:=by
 cases r with
 | tmp i=>
   simp[Ef]at hv;subst hv
   exact⟨(t.2 i).2,by simp[res1,(t.2 i).1]⟩
 | cell a ty=>
   have t':Bv I n ts (Act.mk tmps []).tmps:=t
   have hev:=t'.ev
   have hrow:∀a' row,ev ts (.t a)= .pointer (some a')->h.get a'.block=some row->Bw I a'.block w row:=fun a' row hp hg=>by
    have:=(t.2 a).2
    simp only[ev]at hp
    rw[hp]at this
    exact k.rows _ _ hg (AQ (by simpa only[In]using this))
   have hp:∀b,(ts a)= .pointer (some b)->∃c,tmps.getD a undef= .pointer (some c):=fun b hb=>by
    have h1:=(t.2 a).1
    have h2:=(t.2 a).2
    rw[hb]at h1 h2
    simp only[In]at h2
    obtain⟨c,hc⟩:=CK h2
    exact⟨c,by rw[h1];simp[ren,hc]⟩
   simp only[Ef]at hv
   have fin:∀b,ts a= .pointer (some b)->In I v/\(execOp (Act.mk tmps []).eval {(default:Oper)with op:=.load ty (.tmp a)}).run P w= .ok (.value (ren I v)) w->In I v/\(res1 tmps (.cell a ty)).run P w= .ok (ren I v) w:=by
    rintro b hb ⟨h1,h2⟩
    refine⟨h1,?_⟩
    obtain⟨c,hc⟩:=hp b hb
    simp only[execOp,Act.eval,hc,Instr.loadAt,Instr.sureAddr,Sem.run_bind,Sem.run_pure,Result.andThen_ok]at h2
    simp only[res1,hc,asAddr,Sem.run_bind,Sem.run_pure,Result.andThen_ok]
    cases hr:(loadVar ty c).run P w with
    |ok x w'=>rw[hr]at h2;simp at h2;simp[h2]
    |halt x w'=>rw[hr]at h2;simp at h2
   split at hv
   ·rename_i ht
    simp only[Option.bind_eq_some_iff]at hv
    obtain⟨m,hsz,hv⟩:=hv
    have hb:∃b,ts a= .pointer (some b):=by
     unfold GJ at hv;split at hv
     ·rename_i b hb;exact⟨b,hb⟩
     ·simp at hv
    obtain⟨b,hb⟩:=hb
    exact fin b hb (OY hev (o:={(default:Oper)with op:=.load ty (.tmp a)}) rfl ht hsz (x:=.tmp a) (x':=.t a) rfl hv hrow)
   ·rename_i ht
    have hb:∃b,ts a= .pointer (some b):=by
     unfold GK at hv;split at hv
     ·rename_i b hb;exact⟨b,hb⟩
     ·simp at hv
    obtain⟨b,hb⟩:=hb
    exact fin b hb (OZ hev (o:={(default:Oper)with op:=.load ty (.tmp a)}) rfl ht (x:=.tmp a) (x':=.t a) rfl hv hrow)
   ·simp at hv

theorem Fq {fn:Func}{rs:List ResultVar}(hf:fn.results=⟨rs⟩) {I:Al}{ts:Ts}{h:H}{w:World}{tmps:Array Value}{v:Value}(t:Bv I n ts tmps) (k:Rel I h w) (hv:E1 P h ts rs=some v):
 In I v/\(results fn tmps).run P w= .ok (ren I v) w:=by
 have hres:results fn tmps=(do let vs<-fn.results.mapM (res1 tmps);pure (if h:vs.size=1 then vs[0]else .tuple vs)):=by
  have e:res1 tmps=fun r=>(match r with
   |.tmp t=>pure (tmps.getD t undef)
   |.cell a t=>do loadVar t (<-asAddr (tmps.getD a undef)):Sem Value):=by
   funext r
   cases r<;>rfl
  unfold results
  rw[e]
  rfl
 rw[hres,hf]
 match rs,hv with
 | [],hv=>
   simp[E1]at hv;subst hv
   exact⟨by simp[In,BH],by simp[ren,Ah]⟩
 | [r],hv=>
   obtain⟨i1,r1⟩:=GZ t k hv
   exact⟨i1,by simp[r1]⟩
 | [r,s],hv=>
   simp only[E1,Option.bind_eq_some_iff,Option.map_eq_some_iff]at hv
   obtain⟨x,hx,y,hy,rfl⟩:=hv
   obtain⟨i1,r1⟩:=GZ t k hx
   obtain⟨i2,r2⟩:=GZ t k hy
   exact⟨by simp[In,BH,i1,i2],by simp[r1,r2,ren,Ah]⟩
 | [r,s,q],hv=>
   simp only[E1,Option.bind_eq_some_iff,Option.map_eq_some_iff]at hv
   obtain⟨x,hx,y,hy,z,hz,rfl⟩:=hv
   obtain⟨i1,r1⟩:=GZ t k hx
   obtain⟨i2,r2⟩:=GZ t k hy
   obtain⟨i3,r3⟩:=GZ t k hz
   exact⟨by simp[In,BH,i1,i2,i3],by simp[r1,r2,r3,ren,Ah]⟩

structure Eu (P:Program) (f:FuncId) (n nargs:Nat) (A:Aj) (rs:List ResultVar):Prop where
 mixed:P.follows .mixedOrders=true
 ex:∃fn c,P.funcs[f]? =some fn/\fn.body=some c/\fn.ntmps=n/\nargs<=n/\fn.results=⟨rs⟩/\E2 P n true c=some A/\(fn.name== "runtime.NumGoroutine")=false

def FG (args:List Value):Ts:=fun i=>(args[i]?).getD undef

theorem Wp {I J:Al}{h':H}{w0 w:World}{b lo:Nat}(hb:w.heap[b]? =some (.deferred (some []))) (hnew:w0.heap.size<=b) (hout:∀r s d,J.at_ r s≠some (b,d)) (k:Rel J h' w) (e:Ext I lo w0 w):
 ∃w',(Instr.takeDeferred b).run P w= .ok [] w'/\Rel J h' w'/\Ext I lo w0 w'/\But b w w':=by
 refine⟨{w with heap:=w.heap.setIfInBounds b (.deferred none)},?_,?_⟩
 ·simp[Instr.takeDeferred,getObj,setObj,Sem.run,hb]
 ·have B2:But b w {w with heap:=w.heap.setIfInBounds b (.deferred none)}:=⟨rfl,rfl,rfl,by simp,fun j hj=>by simp[Array.getElem?_setIfInBounds_ne (Ne.symm hj)]⟩
  refine⟨⟨fun r row hr d=>(k.rows r row hr d).le (Le.refl J) (fun _ _ e=>e) (fun b' ⟨s,d,hb'⟩=>B2.block b' (fun e=>hout r s d (e▸hb'))),k.lt,fun r s b' d e'=>by rw[B2.size];exact k.size _ _ _ _ e',by rw[B2.size];exact k.base,fun x hx=>let⟨h1,e1,fr,h2⟩:=k.tabs x hx;⟨h1,e1,fr,(B2.block x.1 (fun e=>by rw[e,hb]at h2;simp at h2)).trans h2⟩,k.inj,k.clean⟩,
   ⟨e.os,e.tape,e.output,by rw[B2.size];exact e.size,fun b' hb' hr=>?_⟩,B2⟩
  rw[B2.block b' (by omega),e.block b' hb' hr]

theorem EF {fn:Func}{tmps:Array Value}{R:Ending->World->Prop}{I J:Al}{h':H}{w0:World}(hR:∀w,Rel J h' w->Ext I lo w0 w->∃v,(results fn tmps).run P w= .ok v w/\R (.returned v) w):
 ∀(ms:List Deferred) (w:World),Rel J h' w->Ext I lo w0 w->Marks J w0 w ms->LeavesInM Fence.wide 0 P fn tmps R ms .returning w
 |[],w,k,e,_=>hR w k e
 | m::ms,w,k,e,hm=>by
   obtain⟨b,hmb,hnew,hlt,hheap,hout⟩:=hm.each m (by simp)
   obtain⟨w',hrun,k',e',B2⟩:=Wp (P:=P) hheap hnew hout k e
   refine⟨by simp,.inl ⟨b,w',by rw[hmb],hrun,EF hR ms w' k' e' ⟨fun m' hm'=>?_,(List.pairwise_cons.1 hm.apart).2⟩⟩⟩
   obtain⟨b',h1,h2,h3,h4,h5⟩:=hm.each m' (by simp[hm'])
   have hne:b'≠b:=fun eq=>(List.pairwise_cons.1 hm.apart).1 m' hm' (by rw[hmb,h1,eq])
   exact⟨b',h1,h2,by rw[B2.size];exact h3,by rw[B2.block b' hne];exact h4,h5⟩

def AW (P:Program) (f:FuncId) (lo:Nat) (h:H) (args:List Value) (R:Value->H->Prop):Prop:=∃v h',R v h'/\AF P f lo h args v h'

theorem Eu.call {f:FuncId}{nargs:Nat}{A:Aj}{rs:List ResultVar}(F:Eu P f n nargs A rs) {h:H}{args:List Value}{R:Value->H->Prop}(ha:args.length=nargs) (hlo:lo<=h.next)
 (hw:DV P lo A (fun e ts h'=>(e= .normal\/e= .ret)/\∃v,E1 P h' ts rs=some v/\R v h') (FG args) h):AW P f lo h args R:=by
 obtain⟨fn,c,hf,hb,hn,hna,hrs,hcc,hname⟩:=F.ex
 obtain⟨e,ts',h',⟨he,v,hv,hR⟩,hq,hg⟩:=Ld F.mixed c A _ _ _ hcc hlo hw
 refine⟨v,h',hR,hq,fun as_ w=>?_,fun I w k ia=>?_⟩
 ·have hne:¬fn.name= "runtime.NumGoroutine" :=by simpa using hname
  simp[callFunc,hf,hne,hb,program,Sem.run]
 ·refine callsIn_wide.1 (callsIn_of_wp_marks (F:=Fence.wide) (n:=0) hf hb trivial ?_)
  have ht:Bv I n (FG args) ((⟨Ah I args⟩:Array Value)++Array.replicate (fn.ntmps - (⟨Ah I args⟩:Array Value).size) undef):=by
   refine⟨by simp;omega,fun i=>?_⟩
   rw[Array.getD_eq_getD_getElem?,Array.getElem?_append]
   by_cases hi:i<args.length
   ·simp only[List.size_toArray,Bp,hi,if_true,List.getElem?_toArray,BO,FG,List.getElem?_eq_getElem hi,Option.map_some,Option.getD_some]
    exact⟨trivial,Eb ia (List.getElem?_eq_getElem hi)⟩
   ·simp only[List.size_toArray,Bp,hi,if_false,FG,List.getElem?_eq_none (Nat.le_of_not_lt hi),Option.getD_none]
    refine⟨?_,(BV I).2⟩
    rw[(BV I).1,Array.getElem?_replicate]
    split<;>rfl
  have:=hg none I w ⟨_,[]⟩ k ht (fun _=>rfl)
  refine Go.wpIn_mono this ?_
  rintro e' a' w' ⟨rfl,J,AV,t',ms,hd,hms⟩
  simp only[List.append_nil]at hd
  have hleave:LeavesInM Fence.wide 0 P fn a'.tmps (fun e w'=>∃J,BR I J lo h.next h' w w'/\In J v/\e= .returned (ren J v)) ms .returning w':=by
   refine EF (I:=I) (J:=J) (h':=h') (lo:=lo) (fun w2 k2 e2=>?_) ms w' AV.rel AV.ext hms
   obtain⟨iv,hrun⟩:=Fq (P:=P) hrs t' k2 hv
   exact⟨_,hrun,J,⟨AV.grows,AV.dom,AV.old,k2,e2⟩,iv,rfl⟩
  rcases he with rfl|rfl
  ·simp only[bodyPostM,hd];exact hleave
  ·simp only[bodyPostM,hd];exact hleave

end

structure Tl (P:Program) (f:FuncId) (n nargs:Nat) (A:Aj) (rs:List ResultVar):Prop where
 mixed:P.follows .mixedOrders=true
 ex:∃fn c,P.funcs[f]? =some fn/\fn.body=some c/\fn.ntmps=n/\nargs<=n/\fn.results=⟨rs⟩/\AZ P n true c=some A/\(fn.name== "runtime.NumGoroutine")=false

theorem UJ {P:Program}{f:FuncId}{fn:Func}{c:Code}{n nargs lo:Nat}{rs:List ResultVar}{h:H}{args:List Value}{v:Value}(hf:P.funcs[f]? =some fn) (hb:fn.body=some c) (hn:fn.ntmps=n) (hna:nargs<=n) (hrs:fn.results=⟨rs⟩) (hname:(fn.name== "runtime.NumGoroutine")=false)
 (ha:args.length=nargs) (hin:∀J:Al,In J v->In (J.below h.next) v)
 (hw:WD (TC true P c) n lo (fun e ts h'=>(e= .normal\/e= .ret)/\E1 P h' ts rs=some v/\∀r,r<h.next->h'.get r=h.get r) (FG args) h):AF P f lo h args v h:=by
 refine⟨Quiet.refl lo h,fun as_ w=>?_,fun I w k ia=>?_⟩
 ·have hne:¬fn.name= "runtime.NumGoroutine" :=by simpa using hname
  simp[callFunc,hf,hne,hb,program,Sem.run]
 ·refine callsIn_wide.1 (callsIn_of_wp_marks (F:=Fence.wide) (n:=0) hf hb trivial ?_)
  have ht:Bv I n (FG args) ((⟨Ah I args⟩:Array Value)++Array.replicate (fn.ntmps - (⟨Ah I args⟩:Array Value).size) undef):=by
   refine⟨by simp;omega,fun i=>?_⟩
   rw[Array.getD_eq_getD_getElem?,Array.getElem?_append]
   by_cases hi:i<args.length
   ·simp only[List.size_toArray,Bp,hi,if_true,List.getElem?_toArray,BO,FG,List.getElem?_eq_getElem hi,Option.map_some,Option.getD_some]
    exact⟨trivial,Eb ia (List.getElem?_eq_getElem hi)⟩
   ·simp only[List.size_toArray,Bp,hi,if_false,FG,List.getElem?_eq_none (Nat.le_of_not_lt hi),Option.getD_none]
    refine⟨?_,(BV I).2⟩
    rw[(BV I).1,Array.getElem?_replicate]
    split<;>rfl
  have:=hw none I w ⟨_,[]⟩ k ht (fun _=>rfl)
  refine Go.wpIn_mono this ?_
  rintro e' a' w' ⟨ts',h',J,⟨he,hv,hs⟩,hq,AV,t',ms,hd,hms⟩
  simp only[List.append_nil]at hd
  have hleave:LeavesInM Fence.wide 0 P fn a'.tmps (fun e w'=>∃J,BR I J lo h.next h w w'/\In J v/\e= .returned (ren J v)) ms .returning w':=by
   refine EF (I:=I) (J:=J) (h':=h') (lo:=lo) (fun w2 k2 e2=>?_) ms w' AV.rel AV.ext hms
   obtain⟨iv,hrun⟩:=Fq (P:=P) hrs t' k2 hv
   have W:BR I J lo h.next h' w w2:=⟨AV.grows,AV.dom,AV.old,k2,e2⟩
   exact⟨_,hrun,J.below h.next,W.below k hs,hin J iv,by rw[<-((J.below_le h.next).ren v (hin J iv)).1]⟩
  rcases he with rfl|rfl
  ·simp only[bodyPostM,hd];exact hleave
  ·simp only[bodyPostM,hd];exact hleave


theorem Tl.call {P:Program}{n:Nat}{f:FuncId}{nargs:Nat}{A:Aj}{rs:List ResultVar}(F:Tl P f n nargs A rs) {lo:Nat}{h:H}{args:List Value}{v:Value}(ha:args.length=nargs) (hlo:lo<=h.next) (hin:∀J:Al,In J v->In (J.below h.next) v)
 (hw:DV P lo A (fun e ts h'=>(e= .normal\/e= .ret)/\E1 P h' ts rs=some v/\∀r,r<h.next->h'.get r=h.get r) (FG args) h):AW P f lo h args (fun w _=>w=v):=by
 obtain⟨fn,c,hf,hb,hn,hna,hrs,hcc,hname⟩:=F.ex
 exact⟨v,h,rfl,UJ hf hb hn hna hrs hname ha hin (X7 F.mixed c true A _ _ _ hcc hlo hw)⟩

end AE
