/- The evaluator and its laws: AEAppend, AEMaps, AEMaps2, AEMaps3, AEBenign, AEWrap, AEMach, AEReg, AEVer, AETrace, AEDraw, AEDreg, AECut, AEScope, AEYield, AEDemon, AECode. No program in sight. -/
import Derived.Test.YtneenfjffejnoaaGreatAEone
import Derived.Maps.RangeRun
import Derived.OrdersIn
import Derived.RangeFuncIn
import Derived.RangeFuncLeaves
set_option linter.unusedVariables false
set_option linter.unusedSimpArgs false
set_option linter.unusedSectionVars false

/- append and copy. -/
namespace AE
open Go Go.RowKit

theorem Rq:0<far:=by unfold far;omega
theorem U8 (L:Nat):∀(k c:Nat),256<=c->Builtin.growBy L k c<=2^k*c
 |0,c,_=>by simp[Builtin.growBy]
 | k +1,c,h=>by
   simp only[Builtin.growBy]
   split
   ·have:1<=2^(k+1):=Nat.one_le_two_pow
    calc c=1*c:=by omega
     _<=2^(k+1) *c:=Nat.mul_le_mul_right c this
   ·have h1:(c+768) / 4<=c:=by omega
    have ih:=U8 L k (c+(c+768) / 4) (by omega)
    calc Builtin.growBy L k (c+(c+768) / 4)<=2^k* (c+(c+768) / 4):=ih
     _<=2^k* (2*c):=Nat.mul_le_mul_left _ (by omega)
     _=2^(k+1) *c:=by rw[Nat.pow_succ];simp[Nat.mul_assoc]
theorem nextslicecap_le {need cap:Nat}(h:cap<need):Builtin.nextslicecap need cap<=16*need:=by
 unfold Builtin.nextslicecap
 split
 ·omega
 ·split
  ·omega
  ·have:=U8 need 4 cap (by omega)
   omega

section
variable {P:Program}{I:AZ}{ts:Ts}{ρ:Operand->Value}

theorem Em {h:H}{w:World}{sz n:Nat}{v:Value}{l:List Value}(k:∀a len cap row,v= .slice (some a) len cap->cap<far->h.get a.block=some row->Ci I a.block w row) (hi:In I v) (hl:Dv h sz n v=some l):
 (Builtin.firstCells sz n (ren I v)).run P w= .ok ⟨AX I l⟩ w/\C5 I l/\((∀len cap,v≠ .slice none len cap)->l.length=n*sz):=by
 unfold Dv at hl
 split at hl
 ·rename_i a len cap
  split at hl
  ·rename_i hf
   split at hl<;>simp at hl
   rename_i hn
   subst hl hn
   rw[Mj hf]at hi
   obtain⟨rfl, -⟩:=hi
   exact⟨by rw[Et hf];simp[Builtin.firstCells,loadCells,loadCellsFrom,AX],by simp[C5],fun _=>by simp⟩
  rename_i hf
  have hf:=Nat.not_le.1 hf
  rw[Dp hf]at hi
  cases hg:h.get a.block with
  |none=>simp[H.Bu,hg]at hl
  | some row=>
    obtain⟨b,hb,hbs,il,hlen,hcell⟩:=NB hg (k a len cap row rfl hf hg) hi.1 hl
    have hc:=JA (P:=P) hcell
    rw[hlen]at hc
    refine⟨by simp only[CQ hf,hb,Builtin.firstCells];exact hc,il,fun _=>hlen⟩
 ·rename_i len cap
  simp at hl;subst hl
  exact⟨by simp[ren,Builtin.firstCells,AX],by simp[C5],fun e=>absurd rfl (e _ _)⟩
 ·rename_i s
  split at hl<;>simp at hl
  rename_i hsz
  subst hl
  have hf:DZ (Tw s n)=true:=by
   unfold Tw
   induction (s.extract 0 n).data.toList with
   |nil=>rfl
   |cons b bs ih=>simp[DZ,flat]at ih⊢;exact ih
  obtain⟨e,i⟩:=FT I _ hf
  refine⟨?_,i,fun _=>by rw[hsz.1];simp[Tw];omega⟩
  rw[e]
  simp[ren,Builtin.firstCells,Tw]
  apply Array.ext'
  simp
 ·simp at hl

theorem Fy (z:Array Value) (n:Nat):(Builtin.zeroCells z n).size=n*z.size:=by simp[Builtin.zeroCells]


theorem Rel.drew {h:H}{w:World}(k:Rel I h w):Rel I h w.drew:=
 ⟨fun r row e d=>(k.rows r row e d).le (Le.refl I) (fun _ _ e=>e) (fun _ _=>rfl),k.lt,k.size,k.base,k.tabs,k.inj,k.clean⟩
theorem Ext.drew (I:AZ) (lo:Nat) (w:World):Ext I lo w w.drew:=⟨rfl,rfl,rfl,Nat.le_refl _,fun _ _ _=>rfl⟩
theorem BK {a:Addr}(h:Nm I a):I.dom a.block:=by obtain⟨p,hp⟩:=h;exact⟨_,p,hp⟩

theorem EC {v:Value}{n:Nat}(h:FK v=some n) (w:World):(Builtin.lenOf (ren I v)).run P w= .ok n w:=by
 unfold FK at h
 split at h
 ·rename_i a len cap
  simp at h;subst h
  cases a with
  |none=>simp[ren,Builtin.lenOf]
  |some a=>rcases Nat.lt_or_ge cap far with hc|hc<;>simp[CQ,Et,hc,Builtin.lenOf]
 ·simp at h;subst h;simp[ren,Builtin.lenOf]
 ·simp at h

theorem HD {t u e ty:TypeId}{d:TypeDesc}{sz n sLen sCap:Nat}{base:Option Addr}{x:Value}{new:Array Value}{w:World}(ht:P.underlying t=some (.slice e)) (hu:P.underlying u=some d) (hd:∀k,d≠ .int k)
 (hs:sizeT P e=some sz) (hn:(Builtin.lenOf x).run P w= .ok n w) (hfit:sLen+n<=sCap) (hnew:(Builtin.firstCells sz n x).run P w= .ok new w):
 (Builtin.append_ #[t,u] ty #[.slice base sLen sCap,x]).run P w=
  match base with
  |some a=>((storeCells (a.add (sLen*sz)) new.toList).run P w).andThen fun _ w'=>.ok (.slice (some a) (sLen+n) sCap) w'
  |none=>.ok (.slice none (sLen+n) sCap) w:=by
 unfold Builtin.append_
 simp[run_underlying ht,run_underlying hu,Cs hs,hn,hfit,hnew]
 cases base<;>simp


theorem HU {t u e ty:TypeId}{d:TypeDesc}{sz n sLen sCap:Nat}{base:Option Addr}{x z:Value}{ie:TypeInfo}{old new:Array Value}{w:World}(ht:P.underlying t=some (.slice e)) (hu:P.underlying u=some d) (hd:∀k,d≠ .int k)
 (hi:P.info? e=some ie) (hsz:ie.size=sz) (hzv:∀w,(zeroValue e).run P w= .ok z w) (hn:(Builtin.lenOf x).run P w= .ok n w) (hfit:sCap<sLen+n) (hsm:small (sLen+n) ie.bytes)
 (hold:(Builtin.firstCells sz sLen (.slice base sLen sCap)).run P w.drew= .ok old w.drew) (hnew:(Builtin.firstCells sz n x).run P w.drew= .ok new w.drew):
 ∃C,sLen+n<=C/\(Builtin.append_ #[t,u] ty #[.slice base sLen sCap,x]).run P w=
  .ok (.slice (some ⟨w.heap.size,0,none⟩) (sLen+n) C) (w.drew.alloc (.cells (old++new++Builtin.zeroCells z.cells (C - (sLen+n))) e)):=by
 refine⟨sLen+n+w.tape w.drawn (.appendCap (sLen+n) sCap e)%(2^63 - (sLen+n)),by omega,?_⟩
 have hs:sizeT P e=some sz:=by simp[sizeT,hi,hsz]
 unfold small at hsm
 have hle:sLen+n+1<=2^40:=Nat.le_trans (Nat.le_mul_of_pos_right _ (by omega)) hsm
 have hb:(sLen+n) *ie.bytes<=2^40:=Nat.le_trans (Nat.mul_le_mul (by omega) (by omega)) hsm
 have hcap:=nextslicecap_le hfit
 have hcb:Builtin.nextslicecap (sLen+n) sCap*ie.bytes<=2^48:=by
  have:Builtin.nextslicecap (sLen+n) sCap*ie.bytes<=16* (sLen+n) *ie.bytes:=Nat.mul_le_mul_right _ hcap
  rw[Nat.mul_assoc]at this
  omega
 have h1:¬(sLen+n<=sCap):=by omega
 have h2:¬((9223372036854775807:Int)<(sLen:Int)+(n:Int)/\ie.bytes=0):=by omega
 have h3:¬(281474976710656<Builtin.nextslicecap (sLen+n) sCap*ie.bytes):=by omega
 have h4:(Question.appendCap (sLen+n) sCap e).forced=false:=rfl
 have h5:∀t,(Question.appendCap (sLen+n) sCap e).cut t=sLen+n+t%(2^63 - (sLen+n)):=fun t=>rfl
 unfold Builtin.append_
 simp[run_underlying ht,run_underlying hu,Cs hs,hn,h1,run_typeInfo _ hi,h2,h3,h4,hold,hnew,hzv,h5,newRow]


theorem nS {a:Addr}{n c:Nat}(h:E4 I a n c):n<=CH I a c:=by
 unfold E4 at h
 unfold CH
 cases hs:a.spot with
 |none=>rw[hs]at h;exact h
 | some g=>
   rw[hs]at h
   simp only at h⊢
   split at h
   ·rename_i hc;simp only[hc,if_true];exact h
   ·rename_i hc;simp only[hc,if_false];omega

theorem Rel.Ef {h:H}{w:World}(k:Rel I h w) {Br:Nat}(hn:¬I.dom Br) (hr:Br<h.next) {c:List Value}(hc:C5 I c) {e m sz C:Nat}(hlen:c.length=m*sz) (hm:m<=C) (zs:Array Value) (hzs:zs.size=(C - m) *sz):
 let J:=I.plus Br (some 0) w.heap.size C
 Rel J (h.put Br (.grow c e sz [c.length] 0)) (w.drew.alloc (.cells (⟨AX I c⟩++zs) e))/\CK I J w/\Ext I Br w (w.drew.alloc (.cells (⟨AX I c⟩++zs) e))/\ren J (.slice (some ⟨Br,0,some 0⟩) m 0)= .slice (some ⟨w.heap.size,0,none⟩) m C/\In J (.slice (some ⟨Br,0,some 0⟩) m 0):=by
 intro J
 have hle:Le I J:=Le.plus (FJ hn _)
 obtain⟨er,ir⟩:=hle.AX c hc
 have hat:J.at_ Br (some 0)=some (w.heap.size,0):=AZ.BD ..
 have hcap:J.cap Br 0=C:=by simp[J,AZ.plus]
 refine⟨?_,CK.plus (FJ hn _) (.inl (Nat.le_refl _)),⟨rfl,rfl,rfl,by simp,fun b hb _=>heap_alloc_old w.drew _ hb⟩,?_,?_⟩
 ·have z:∀g p,J.at_ Br (some g)=some p->g=0:=fun g p e'=>by
   by_cases hg:g=0
   ·exact hg
   ·rw[AZ.BA (by simp[hg])]at e'
    exact absurd ⟨_,_,e'⟩ hn
  refine k.drew.new hn hr (some 0) C _ ⟨ir,rfl,by simp,fun g p e'=>by rw[z g p e'];simp,fun g g' b d d' _ _ x1 x2=>?_,fun g hg hl=>?_⟩
  ·obtain rfl:=z _ _ x1
   obtain rfl:=z _ _ x2
   have x1:J.at_ Br (some 0)=some (b,d):=x1
   have x2:J.at_ Br (some 0)=some (b,d'):=x2
   rw[x1]at x2;simp at x2;exact x2
  ·obtain rfl:g=0:=by simpa using hl
   refine⟨w.heap.size,0,⟨AX I c⟩++zs,hat,k.base,heap_alloc w.drew _,?_,?_,?_⟩
   ·simp[GN]
   ·show _=0+J.cap Br 0*sz
    rw[hcap,Nat.zero_add]
    simp only[Array.size_append,List.size_toArray,Cw,hlen,hzs,<-Nat.add_mul]
    congr 1;omega
   ·intro i hi
    simp only[GN,List.length_cons,List.length_nil,Nat.zero_add,Nat.sub_self,List.getElem?_cons_zero,Option.getD_some]at hi
    rw[Nat.zero_add,Array.getElem?_append,if_pos (by simpa using hi)]
    show _=(AX J c)[i]?
    rw[er]
    simp
 ·rw[CQ Rq]
  simp only[Ew,hat,CH,hcap]
  simp
 ·rw[Dp Rq]
  simp only[Nm,E4,hat,hcap]
  exact⟨⟨_,rfl⟩,by simpa using hm⟩


theorem Lb {v:Value}{n sz:Nat}(h:FK v=some n) (w:World):(Builtin.firstCells sz 0 (ren I v)).run P w= .ok #[] w:=by
 unfold FK at h
 split at h
 ·rename_i a len cap
  cases a with
  |none=>simp[ren,Builtin.firstCells]
  | some a=>
    rcases Nat.lt_or_ge cap far with hc|hc
    ·rw[CQ hc]
     cases Ew I a<;>simp[Builtin.firstCells,loadCells,loadCellsFrom]
    ·rw[Et hc]
     simp[Builtin.firstCells,loadCells,loadCellsFrom]
 ·simp[ren,Builtin.firstCells]
 ·simp at h

theorem FR {x:Nat}{lens:List Nat}{g:Nat}(h:g<lens.length):GN (x::lens) g=GN lens g:=by
 unfold GN
 simp only[List.length_cons]
 rw[show lens.length+1 - 1 - g=(lens.length - 1 - g)+1 by omega,List.getElem?_cons_succ]
theorem Gh {x:Nat}{lens:List Nat}:GN (x::lens) lens.length=x:=by
 unfold GN
 simp

section sims
variable {o:Oper}{t u e:TypeId}{d:TypeDesc}{x y:Operand}{x' y':BH}{ie:TypeInfo}{z:Value}{lo Br:Nat}{h h':H}{w:World}{v:Value}

theorem DN (ho:o.op= .call ⟨.builtin .append, #[x,y], #[t,u]⟩) (w:World):(execOp ρ o).run P w=((Builtin.append_ #[t,u] o.type #[ρ x,ρ y]).run P w).andThen fun a w'=>.ok (.value a) w':=by
 simp[execOp,ho,resolve,invoke,builtin]

theorem UC (hρ:Ev I ts ρ) (ho:o.op= .call ⟨.builtin .append, #[x,y], #[t,u]⟩) (ht:P.underlying t=some (.slice e)) (hu:P.underlying u=some d) (hd:∀k,d≠ .int k) (hi:P.info? e=some ie)
 (hz:Fx P e=some z) (_h0:ie.size≠0) (hzl:(Bf z).length=ie.size) (hx:Bw x=some x') (hy:Bw y=some y') (k:Rel I h w) (Jt:¬I.dom Br) (hnx:Br<h.next) (hlo:lo<=Br)
 {a:Addr} {len cap c n:Nat} {nc:List Value} (hs:ev ts x'= .slice (some a) len cap) (hcf:cap<far) (hcap:CH I a cap=c) (Kl:∀m,m<=c->E4 I a m cap) (hn:FK (ev ts y')=some n) (hnc:Dv h ie.size n (ev ts y')=some nc) (hn0:n≠0)
 (ha:G8 lo Br e ie.size ie.bytes a len cap c n nc h=some (v,h')):Ld P I ρ o lo Br h' v w:=by
 obtain⟨e1,i1⟩:=hρ x x' hx
 obtain⟨e2,i2⟩:=hρ y y' hy
 rw[hs]at e1 i1
 rw[Dp hcf]at i1
 rw[CQ hcf,hcap]at e1
 have hsz:sizeT P e=some ie.size:=by simp[sizeT,hi]
 have hyl:(∀l c',ev ts y'≠ .slice none l c'):=by
  intro l c' hyn
  rw[hyn]at i2 hn
  simp only[In]at i2
  simp[FK]at hn
  omega
 have nk:∀(a:Addr) len cap row,ev ts y'= .slice (some a) len cap->cap<far->h.get a.block=some row->Ci I a.block w row:=fun a len cap row hy' hf hg=>by
  rw[hy']at i2
  exact k.rows _ _ hg (BK (by rw[Dp hf]at i2;exact i2.1))
 obtain⟨b,hb⟩:=Ek i1.1
 rw[hb]at e1
 unfold G8 at ha
 split at ha
 ·rename_i hfit
  simp only[Option.map_eq_some_iff,Prod.mk.injEq]at ha
  obtain⟨h'',hst,rfl,rfl⟩:=ha
  obtain⟨c1,inc, -⟩:=Em (P:=P) nk i2 hnc
  obtain⟨ia,ea⟩:=J6 i1.1 (len*ie.size)
  have hblk:(BI a (len*ie.size)).block=a.block:=rfl
  cases hg:h.get a.block with
  | none=>
    unfold H.En at hst
    rw[hblk,hg]at hst
    split at hst<;>simp at hst
  | some row=>
    obtain⟨oe,b',row',w',hb',rfl,hrun,hrow,De,hbase,hat⟩:=Jw (P:=P) (a:=BI a (len*ie.size)) hg (k.rows _ _ hg (BK i1.1)) ia inc hst
    rw[ea,hb]at hb'
    simp only[Option.map_some,Option.some.injEq]at hb'
    obtain⟨s0,d0,hs0⟩:=hat
    refine⟨I,w',_,⟨CK.refl I w,fun _ d=>.inl d,fun _ _ _ _ e=>e⟩,k.store hbase ⟨s0,_,hs0⟩ De hrow,?_,De.ext oe hs0 hbase,?_,.inl rfl⟩
    ·rw[Dp hcf]
     exact⟨i1.1,Kl _ hfit⟩
    ·rw[DN ho,e1,e2,HD ht hu hd hsz (EC hn w) hfit c1]
     simp only[hb',hrun,Result.andThen_ok,CQ hcf,hb,hcap]
 ·rename_i hfit
  split at ha
  ·rename_i hsm
   simp only[Option.bind_eq_some_iff]at ha
   obtain⟨oc,hoc,ha⟩:=ha
   simp only[Ef,Option.some.injEq,Prod.mk.injEq]at ha
   obtain⟨rfl,rfl⟩:=ha
   have kd:=k.drew
   obtain⟨c1,inc,hl1⟩:=Em (P:=P) (w:=w.drew) (fun a len cap row hy' hf hg=>kd.rows _ _ hg (BK (by rw[hy']at i2;rw[Dp hf]at i2;exact i2.1))) i2 hnc
   have nZ:Dv h ie.size len (.slice (some a) len cap)=some oc:=by simp only[Dv];rw[if_neg (Nat.not_le.2 hcf)];exact hoc
   obtain⟨c2,ioc,hl2⟩:=Em (P:=P) (w:=w.drew) (fun a' len' cap' row hy' _ hg=>kd.rows _ _ hg (by simp at hy';rw[<-hy'.1];exact BK i1.1)) (by rw[Dp hcf];exact i1) nZ
   rw[CQ hcf,hb,hcap]at c2
   obtain⟨C,hC,hrun⟩:=HU (P:=P) (t:=t) (u:=u) (ty:=o.type) ht hu hd hi rfl (fun w=>(CO hz w).1) (EC (I:=I) hn w) (by omega) hsm.1 c2 c1
   have hlen:(oc++nc).length=(len+n) *ie.size:=by
    rw[List.length_append,hl2 (fun _ _ e=>by simp at e),hl1 hyl,Nat.add_mul]
   obtain⟨r1,r2,r3,r4,r5⟩:=k.Ef (e:=e) Jt hnx (Df.2 ⟨ioc,inc⟩) hlen hC (Builtin.zeroCells z.cells (C - (len+n))) (by rw[Fy,EI];simp[hzl])
   refine⟨_,_,_,⟨r2,fun _ d=>AZ.C8 d,AZ.GF hlo⟩,r1,r5,r3.mono hlo,?_,.inl rfl⟩
   rw[DN ho,e1,e2,hrun,r4]
   simp[CY]
  ·simp at ha

theorem lX (hρ:Ev I ts ρ) (ho:o.op= .call ⟨.builtin .append, #[x,y], #[t,u]⟩) (ht:P.underlying t=some (.slice e)) (hu:P.underlying u=some d) (hd:∀k,d≠ .int k) (hi:P.info? e=some ie)
 (hz:Fx P e=some z) (hzl:(Bf z).length=ie.size) (hx:Bw x=some x') (hy:Bw y=some y') (k:Rel I h w)
 {a:Addr} {g len cap n valid:Nat} {c:List Value} {lens:List Nat} {nc:List Value} (hs:ev ts x'= .slice (some a) len cap) (hcf:cap<far) (hsp:a.spot=some g) (hg:h.get a.block=some (.grow c e ie.size lens valid)) (hn:FK (ev ts y')=some n) (hnc:Dv h ie.size n (ev ts y')=some nc) (hn0:n≠0)
 (hlo:lo<=a.block) (hval:valid<=g) (hg1:g+1=lens.length) (hev:cap%2=0) (hoff:a.off=cap / 2*ie.size) (hcl:a.off+len*ie.size=c.length) (hsm:small (len+n) ie.bytes) (hone:nc.all Value.oneCell'=true):
 Ld P I ρ o lo Br (h.put a.block (.grow (c.drop a.off++nc) e ie.size ((len*ie.size+nc.length)::lens.map fun _=>0) (g+1))) (.slice (some ⟨a.block,0,some (g+1)⟩) (len+n) 0) w:=by
 obtain⟨e1,i1⟩:=hρ x x' hx
 obtain⟨e2,i2⟩:=hρ y y' hy
 rw[hs]at e1 i1
 rw[Dp hcf]at i1
 have hsz:sizeT P e=some ie.size:=by simp[sizeT,hi]
 have hyl:(∀l c',ev ts y'≠ .slice none l c'):=by
  intro l c' hyn
  rw[hyn]at i2 hn
  simp only[In]at i2
  simp[FK]at hn
  omega
 have hrow:=k.rows _ _ hg (BK i1.1)
 obtain⟨ic,hh1,hh2,hgen,hof,hmain⟩:=hrow
 obtain⟨p,hp⟩:=i1.1
 rw[hsp]at hp
 have bL:g<lens.length:=hgen g p hp
 have hgl:GN lens g=c.length:=by
  unfold GN
  rw[show lens.length - 1 - g=0 by omega]
  cases lens with
  |nil=>simp at bL
  |cons q qs=>simp at hh1⊢;exact hh1
 obtain⟨b,d,C,hat,hbase,hheap,hle,tX,hcell⟩:=hmain g hval bL
 have hic:cap / 2+len<=I.cap a.block g:=by
  have:=i1.2
  unfold E4 at this
  rw[hsp]at this
  simp only at this
  rwa [if_neg (by omega)]at this
 have hca:CH I a cap=I.cap a.block g - cap / 2:=by simp only[CH,hsp];rw[if_neg (by omega)]
 have hra:Ew I a=some ⟨b,d+a.off,none⟩:=by simp[Ew,hsp,hat]
 rw[CQ hcf,hra,hca]at e1
 have hfresh:I.at_ a.block (some (g+1))=none:=by
  cases hc':I.at_ a.block (some (g+1))with
  |none=>rfl
  |some q=>have:=hgen _ _ hc';omega
 have kd:=k.drew
 have hlast:lens.length=g+1:=by omega
 have hcut:(c.drop a.off).length=len*ie.size:=by rw[List.length_drop];omega
 have ict:C5 I (c.drop a.off):=by
  refine Ru (off:=a.off) (n:=len*ie.size) ic ?_
  unfold cut
  rw[if_pos (by omega)]
  congr 1
  rw[List.take_of_length_le (by omega)]
 have hrd:AX I (c.drop a.off)=(AX I c).drop a.off:=by
  have:AX I c=AX I (c.take a.off)++AX I (c.drop a.off):=by rw[<-CY,List.take_append_drop]
  rw[this,List.drop_append_of_le_length (by simp;omega)]
  simp
  omega
 have hmul:I.cap a.block g*ie.size=cap / 2*ie.size+(I.cap a.block g - cap / 2) *ie.size:=by rw[<-Nat.add_mul];congr 1;omega
 -- what it comes to, wherever the new one lies
 have main:∀(J:AZ) (b' d' Cp:Nat) (D:Array Value) (w':World),J=I.plus a.block (some (g+1)) b' Cp d'->(w.heap.size<=b'\/b'=b)->I.base<=b'->w'.heap[b']? =some (.cells D e (0,0))->D.size=d'+Cp*ie.size->len+n<=Cp->(∀i,i<len*ie.size+nc.length->D[d'+i]? =(AX I (c.drop a.off++nc))[i]?)->C5 I nc->nc.length=n*ie.size->w.heap.size<=w'.heap.size->b'<w'.heap.size->(∀b'',b''<w.heap.size->b''≠b'->w'.heap[b'']? =w.heap[b'']?)->
  Rel J (h.put a.block (.grow (c.drop a.off++nc) e ie.size ((len*ie.size+nc.length)::lens.map fun _=>0) (g+1))) w'/\In J (.slice (some ⟨a.block,0,some (g+1)⟩) (len+n) 0)/\ren J (.slice (some ⟨a.block,0,some (g+1)⟩) (len+n) 0)= .slice (some ⟨b',d',none⟩) (len+n) Cp:=by
  rintro J b' d' Cp D w' rfl hb' hbs hD hDs hfit hcl' inc hnl hsz' hblt hkeep
  have hle':Le I (I.plus a.block (some (g+1)) b' Cp d'):=Le.plus hfresh
  have Kl:(I.plus a.block (some (g+1)) b' Cp d').cap a.block (g+1)=Cp:=by simp[AZ.plus]
  obtain⟨er,ir⟩:=hle'.AX (c.drop a.off++nc) (Df.2 ⟨ict,inc⟩)
  have only:∀r' s' b'' d'',¬r'=a.block->I.at_ r' s'=some (b'',d'')->b''≠b':=fun r' s' b'' d'' hne e'' hbe=>by
   subst hbe
   rcases hb' with hb'|rfl
   ·have:=k.size _ _ _ _ e'';omega
   ·exact hne (k.inj _ _ _ _ _ _ _ e'' hat hbs)
  refine⟨⟨fun r' row' e' d'=>?_,fun r' d'=>?_,fun r' s' b'' d'' e'=>?_,?_,?_,?_,k.MO (BK i1.1)⟩,?_,?_⟩
  ·simp only[H.put]at e'
   split at e'
   ·rename_i hrr
    simp at e';subst hrr;subst e'
    refine⟨ir,by simp[hcut],?_,?_,?_,?_⟩
    ·intro m hm
     rcases List.mem_cons.1 hm with rfl|hm
     ·simp[hcut]
     ·simp only[List.mem_map]at hm
      obtain⟨_,_,rfl⟩:=hm
      omega
    ·intro g' p' e'
     by_cases hgg:g'=g+1
     ·simp;omega
     ·rw[AZ.BA (by simp[hgg])]at e'
      have:=hgen _ _ e';simp;omega
    ·intro g1 g2 b1 d1 d2 v1 v2 x1 x2
     have k1:g1=g+1:=by
      by_cases hgg:g1=g+1
      ·exact hgg
      ·rw[AZ.BA (by simp[hgg])]at x1
       have:=hgen _ _ x1;omega
     have k2:g2=g+1:=by
      by_cases hgg:g2=g+1
      ·exact hgg
      ·rw[AZ.BA (by simp[hgg])]at x2
       have:=hgen _ _ x2;omega
     subst k1 k2
     rw[x1]at x2;simp at x2;exact x2
    ·intro g' hv' hl'
     simp only[List.length_cons,List.length_map]at hl'
     obtain rfl:g'=g+1:=by omega
     have hgt:GN ((len*ie.size+nc.length)::lens.map fun _=>0) (g+1)=len*ie.size+nc.length:=by
      rw[<-hlast,show lens.length=(lens.map fun _=>0).length by simp,Gh]
     refine⟨b',_,D,AZ.BD ..,hbs,hD,?_,by rw[Kl];exact hDs,?_⟩
     ·rw[hgt,hDs,hnl,<-Nat.add_mul]
      exact Nat.add_le_add_left (Nat.mul_le_mul_right _ hfit) _
     ·intro i hi
      rw[hgt]at hi
      rw[er];exact hcl' i hi
   ·rename_i hrr
    have d2:I.dom r':=(AZ.C8 d').resolve_right hrr
    refine(k.rows r' row' e' d2).le hle' (fun s' p e''=>by rwa [AZ.BA (fun h=>hrr h.1)]at e'') (fun b'' jy=>?_)
    obtain⟨s',d3,hb3⟩:=jy
    exact hkeep _ (k.size _ _ _ _ hb3) (only _ _ _ _ hrr hb3)
  ·rcases AZ.C8 d' with d2|d2
   ·exact k.lt r' d2
   ·subst d2;exact k.lt _ (BK i1.1)
  ·by_cases hrs:r'=a.block/\s'=some (g+1)
   ·obtain⟨rfl,rfl⟩:=hrs
    rw[AZ.BD]at e'
    simp at e';rw[<-e'.1];exact hblt
   ·rw[AZ.BA hrs]at e';have:=k.size _ _ _ _ e';omega
  ·have:=k.base;simp[AZ.plus];omega
  ·refine k.tabs.same fun b'' YR=>?_
   have YR:b''<I.base:=YR
   have:=k.base
   exact hkeep b'' (by omega) (by omega)
  ·intro r1 r2 s1 s2 b'' d1 d2 ZL e2' YR
   have YR:I.base<=b'':=YR
   by_cases h1:r1=a.block/\s1=some (g+1)
   ·by_cases h2:r2=a.block/\s2=some (g+1)
    ·rw[h1.1,h2.1]
    ·rw[AZ.BA h2]at e2'
     obtain⟨rfl,rfl⟩:=h1
     rw[AZ.BD]at ZL
     simp at ZL
     by_cases hr2:r2=a.block
     ·exact hr2.symm
     ·exact absurd ZL.1.symm (only _ _ _ _ hr2 e2')
   ·rw[AZ.BA h1]at ZL
    by_cases h2:r2=a.block/\s2=some (g+1)
    ·obtain⟨rfl,rfl⟩:=h2
     rw[AZ.BD]at e2'
     simp at e2'
     by_cases hr1:r1=a.block
     ·exact hr1
     ·exact absurd e2'.1.symm (only _ _ _ _ hr1 ZL)
    ·rw[AZ.BA h2]at e2'
     exact k.inj _ _ _ _ _ _ _ ZL e2' YR
  ·rw[Dp Rq]
   simp only[Nm,E4,AZ.BD,Kl]
   exact⟨⟨_,rfl⟩,by simpa using hfit⟩
  ·rw[CQ Rq]
   simp only[Ew,AZ.BD,CH,Kl]
   simp
 by_cases hfit:len+n<=I.cap a.block g - cap / 2
 ·-- there is room: in place
  obtain⟨c1,inc,hl1⟩:=Em (P:=P) (w:=w) (fun a len cap row hy' hf hg=>k.rows _ _ hg (BK (by rw[hy']at i2;rw[Dp hf]at i2;exact i2.1))) i2 hnc
  have hnl:=hl1 hyl
  have hroom:d+(c.length+nc.length)<=C.size:=by
   have:=Nat.mul_le_mul_right ie.size hfit
   rw[Nat.add_mul]at this
   omega
  have hrl:(AX I nc).length=nc.length:=by simp
  have hrun:=run_storeCells_at (P:=P) b (d+c.length) e (AX I nc) 0 C w hheap (by rw[hrl];omega) (LI hone)
  simp only[Nat.add_zero,hrl]at hrun
  generalize hD:(C.toList.take (d+c.length)++AX I nc++C.toList.drop (d+c.length+nc.length)).toArray=D at hrun
  have jA:D.size=C.size:=by
   rw[<-hD];simp;omega
  have fA:∀i,i<len*ie.size+nc.length->D[d+a.off+i]? =(AX I (c.drop a.off++nc))[i]? :=by
   intro i hi
   rw[<-hD,CY,hrd]
   simp only[List.getElem?_toArray,List.append_assoc,List.getElem?_append,List.getElem?_take,List.length_take,Array.length_toList,Array.getElem?_toList,Cw,List.length_drop,List.getElem?_drop]
   rw[show min (d+c.length) C.size=d+c.length by omega]
   by_cases hj:i<len*ie.size
   ·rw[if_pos (by omega),if_pos (by omega),if_pos (by omega),show d+a.off+i=d+(a.off+i) by omega,hcell (a.off+i) (by omega)]
   ·rw[if_neg (by omega),if_pos (by omega),if_neg (by omega),show d+a.off+i - (d+c.length)=i - (c.length - a.off) by omega]
  have De:But b w (w.setRow b D):=But.setRow _ _ _
  obtain⟨m1,m2,m3⟩:=main _ b (d+a.off) (I.cap a.block g - cap / 2) D (w.setRow b D) rfl (.inr rfl) hbase (LX D hheap) (by rw[jA,tX,hmul];omega) hfit fA inc hnl (by rw[De.size];exact Nat.le_refl _) (by rw[De.size];exact k.size _ _ _ _ hat) (fun b'' _ hne=>De.block b'' hne)
  refine⟨_,w.setRow b D,_,⟨CK.plus hfresh (.inr ⟨_,_,hat⟩),fun _ d=>.inl ((AZ.C8 d).elim id (fun e=>e▸⟨_,_,hat⟩)),AZ.GF hlo⟩,m1,m2,De.ext hlo hat hbase,?_,.inl rfl⟩
  rw[DN ho,e1,e2,HD ht hu hd hsz (EC hn w) hfit c1]
  have hadd:(⟨b,d+a.off,none⟩:Addr).add (len*ie.size)=⟨b,d+c.length,none⟩:=by
   unfold Addr.add
   split
   ·rename_i hz0;rw[show d+c.length=d+a.off by omega]
   ·rw[show d+a.off+len*ie.size=d+c.length by omega]
  simp only[hadd,hrun,Result.andThen_ok,m3]
 ·-- a new block
  obtain⟨c1,inc,hl1⟩:=Em (P:=P) (w:=w.drew) (fun a len cap row hy' hf hg=>kd.rows _ _ hg (BK (by rw[hy']at i2;rw[Dp hf]at i2;exact i2.1))) i2 hnc
  have hnl:=hl1 hyl
  have nZ:Dv h ie.size len (.slice (some a) len cap)=some (c.drop a.off):=by
   simp only[Dv]
   rw[if_neg (Nat.not_le.2 hcf)]
   simp only[H.Bu,hg,Option.bind_some,Cr,hsp]
   rw[if_pos ⟨hval,bL,by rw[hgl];omega⟩]
   unfold cut
   rw[if_pos (by omega),List.take_of_length_le (by omega)]
  obtain⟨c2, -, -⟩:=Em (P:=P) (w:=w.drew) (fun a' len' cap' row hy' _ hg=>kd.rows _ _ hg (by simp at hy';rw[<-hy'.1];exact BK i1.1)) (by rw[Dp hcf];exact i1) nZ
  rw[CQ hcf,hra,hca]at c2
  obtain⟨Cp,hCp,hrun⟩:=HU (P:=P) (t:=t) (u:=u) (ty:=o.type) ht hu hd hi rfl (fun w=>(CO hz w).1) (EC (I:=I) hn w) (by omega) hsm c2 c1
  generalize EM:Builtin.zeroCells z.cells (Cp - (len+n))=zs at hrun
  have hzs:zs.size=(Cp - (len+n)) *ie.size:=by rw[<-EM,Fy,EI];simp[hzl]
  generalize hob:Obj.cells ((⟨AX I (c.drop a.off)⟩:Array Value)++⟨AX I nc⟩++zs) e=ob at hrun
  have hold:∀b',b'<w.heap.size->(w.drew.alloc ob).heap[b']? =w.heap[b']? :=fun b' hb'=>heap_alloc_old w.drew ob hb'
  obtain⟨m1,m2,m3⟩:=main _ w.heap.size 0 Cp ((⟨AX I (c.drop a.off)⟩:Array Value)++⟨AX I nc⟩++zs) (w.drew.alloc ob) rfl (.inl (Nat.le_refl _)) k.base (by rw[<-hob];exact heap_alloc w.drew _)
   (by
    simp only[Array.size_append,List.size_toArray,Cw,hnl,hcut,hzs,<-Nat.add_mul,Nat.zero_add]
    congr 1;omega) hCp (fun i hi=>by
    rw[CY,Nat.zero_add,Array.getElem?_append,if_pos (by simp only[Array.size_append,List.size_toArray,Cw,hcut];exact hi)]
    simp) inc hnl (by simp) (by simp) (fun b'' YR _=>hold b'' YR)
  refine⟨_,w.drew.alloc ob,_,⟨CK.plus hfresh (.inl (Nat.le_refl _)),fun _ d=>.inl ((AZ.C8 d).elim id (fun e=>e▸BK i1.1)),AZ.GF hlo⟩,m1,m2,⟨rfl,rfl,rfl,by simp,fun b' hb' _=>hold b' hb'⟩,?_,.inl rfl⟩
  rw[DN ho,e1,e2,hrun,m3]
  simp

theorem rM (hρ:Ev I ts ρ) (ho:o.op= .call ⟨.builtin .append, #[x,y], #[t,u]⟩) (ht:P.underlying t=some (.slice e)) (hu:P.underlying u=some d) (hd:∀k,d≠ .int k) (hi:P.info? e=some ie)
 (hz:Fx P e=some z) (_h0:ie.size≠0) (hzl:(Bf z).length=ie.size) (hx:Bw x=some x') (hy:Bw y=some y') (k:Rel I h w)
 {a:Addr} {g len cap n:Nat} {row:BQ} {nc:List Value} (hs:ev ts x'= .slice (some a) len cap) (hcf:cap<far) (hsp:a.spot=some g) (hg:h.get a.block=some row) (hn:FK (ev ts y')=some n) (hnc:Dv h ie.size n (ev ts y')=some nc) (hn0:n≠0)
 (ha:Pf lo e ie.size ie.bytes a g len cap n nc h row=some (v,h')):Ld P I ρ o lo Br h' v w:=by
 obtain⟨e1,i1⟩:=hρ x x' hx
 obtain⟨e2,i2⟩:=hρ y y' hy
 rw[hs]at e1 i1
 rw[Dp hcf]at i1
 have hsz:sizeT P e=some ie.size:=by simp[sizeT,hi]
 have hyl:(∀l c',ev ts y'≠ .slice none l c'):=by
  intro l c' hyn
  rw[hyn]at i2 hn
  simp only[In]at i2
  simp[FK]at hn
  omega
 unfold Pf at ha
 split at ha
 ·rename_i c e' sz' lens valid
  by_cases hc:lo<=a.block/\valid<=g/\g+1=lens.length/\cap=0/\a.off=0/\len*ie.size=c.length/\e=e'/\ie.size=sz'/\small (len+n) ie.bytes/\nc.all Value.oneCell'=true
  rotate_left
  ·rw[if_neg hc]at ha
   split at ha
   ·rename_i hc2
    simp only[Option.some.injEq,Prod.mk.injEq]at ha
    obtain⟨rfl,rfl⟩:=ha
    obtain⟨h1,h2,h3,h4,h5,h6,rfl,rfl,h7,h8⟩:=hc2
    exact lX hρ ho ht hu hd hi hz hzl hx hy k hs hcf hsp hg hn hnc hn0 h1 h2 h3 h4 h5 h6 h7 h8
   ·cases ha
  rw[if_pos hc]at ha
  simp only[Option.some.injEq,Prod.mk.injEq]at ha
  obtain⟨hlo,hval,hg1,rfl,hoff,hcl,rfl,rfl,hsm,hone⟩:=hc
  obtain⟨rfl,rfl⟩:=ha
  have hrow:=k.rows _ _ hg (BK i1.1)
  obtain⟨ic,hh1,hh2,hgen,hof,hmain⟩:=hrow
  obtain⟨p,hp⟩:=i1.1
  rw[hsp]at hp
  have bL:g<lens.length:=hgen g p hp
  have hgl:GN lens g=c.length:=by
   unfold GN
   rw[show lens.length - 1 - g=0 by omega]
   cases lens with
   |nil=>simp at bL
   |cons q qs=>simp at hh1⊢;exact hh1
  obtain⟨b,d,C,hat,hbase,hheap,hle,tX,hcell⟩:=hmain g hval bL
  have hca:CH I a 0=I.cap a.block g:=by simp[CH,hsp]
  have hra:Ew I a=some ⟨b,d,none⟩:=by simp[Ew,hsp,hat,hoff]
  rw[CQ hcf,hra,hca]at e1
  have hfresh:I.at_ a.block (some (g+1))=none:=by
   cases hc':I.at_ a.block (some (g+1))with
   |none=>rfl
   |some q=>have:=hgen _ _ hc';omega
  have kd:=k.drew
  have hlast:lens.length=g+1:=by omega
  by_cases hfit:len+n<=I.cap a.block g
  ·-- there is room: in place
   obtain⟨c1,inc,hl1⟩:=Em (P:=P) (w:=w) (fun a len cap row hy' hf hg=>k.rows _ _ hg (BK (by rw[hy']at i2;rw[Dp hf]at i2;exact i2.1))) i2 hnc
   have hnl:=hl1 hyl
   have hroom:d+(c.length+nc.length)<=C.size:=by
    rw[tX,<-hcl,hnl,<-Nat.add_mul]
    exact Nat.add_le_add_left (Nat.mul_le_mul_right _ hfit) _
   have hrl:(AX I nc).length=nc.length:=by simp
   have hrun:=run_storeCells_at (P:=P) b (d+c.length) e (AX I nc) 0 C w hheap (by rw[hrl];omega) (LI hone)
   simp only[Nat.add_zero,hrl]at hrun
   generalize hD:(C.toList.take (d+c.length)++AX I nc++C.toList.drop (d+c.length+nc.length)).toArray=D at hrun
   have jA:D.size=C.size:=by
    rw[<-hD];simp;omega
   have Aew:∀i,i<d+c.length->D[i]? =C[i]? :=by
    intro i hi
    rw[<-hD]
    simp only[List.getElem?_toArray,List.append_assoc,List.getElem?_append,List.getElem?_take,List.length_take,Array.length_toList,Array.getElem?_toList]
    rw[if_pos (by omega),if_pos hi]
   have fA:∀i,i<c.length+nc.length->D[d+i]? =(AX I (c++nc))[i]? :=by
    intro i hi
    by_cases hic:i<c.length
    ·rw[Aew (d+i) (by omega),hcell i (by omega),CY,List.getElem?_append_left (by simpa using hic)]
    ·rw[<-hD,CY]
     simp only[List.getElem?_toArray,List.append_assoc,List.getElem?_append,List.length_take,Array.length_toList,Cw]
     rw[show min (d+c.length) C.size=d+c.length by omega,if_neg (by omega),if_pos (by omega),if_neg hic,show d+i - (d+c.length)=i - c.length by omega]
   have hle':Le I (I.plus a.block (some (g+1)) b (I.cap a.block g) d):=Le.plus hfresh
   have Kl:(I.plus a.block (some (g+1)) b (I.cap a.block g) d).cap a.block (g+1)=I.cap a.block g:=by simp[AZ.plus]
   have fy:∀g',g'≠g+1->(I.plus a.block (some (g+1)) b (I.cap a.block g) d).cap a.block g'=I.cap a.block g':=fun g' hne=>by
    simp only[AZ.plus];rw[if_neg];rintro⟨-,h⟩;simp at h;omega
   have De:But b w (w.setRow b D):=But.setRow _ _ _
   obtain⟨er,ir⟩:=hle'.AX (c++nc) (Df.2 ⟨ic,inc⟩)
   refine⟨I.plus a.block (some (g+1)) b (I.cap a.block g) d,w.setRow b D,_,⟨CK.plus hfresh (.inr ⟨_,_,hat⟩),fun _ d=>.inl ((AZ.C8 d).elim id (fun e=>e▸⟨_,_,hat⟩)),AZ.GF hlo⟩,?_,?_,De.ext hlo hat hbase,?_,.inl rfl⟩
   ·refine⟨fun r' row' e' d'=>?_,fun r' d'=>?_,fun r' s' b' d' e'=>?_,?_,?_,?_,k.MO (BK i1.1)⟩
    ·simp only[H.put]at e'
     split at e'
     ·rename_i hrr
      simp at e';subst hrr;subst e'
      refine⟨ir,by simp,?_,?_,?_,?_⟩
      ·intro m hm
       rcases List.mem_cons.1 hm with rfl|hm
       ·simp
       ·have:=hh2 m hm;simp;omega
      ·intro g' p' e'
       by_cases hgg:g'=g+1
       ·simp;omega
       ·rw[AZ.BA (by simp[hgg])]at e'
        have:=hgen _ _ e';simp;omega
      ·intro g1 g2 b1 d1 d2 v1 v2 x1 x2
       by_cases k1:g1=g+1
       ·by_cases k2:g2=g+1
        ·subst k1;subst k2;rw[x1]at x2;simp at x2;exact x2
        ·subst k1
         rw[AZ.BD]at x1
         rw[AZ.BA (by simp[k2])]at x2
         simp at x1;obtain⟨rfl,rfl⟩:=x1
         exact hof _ _ _ _ _ hval v2 hat x2
       ·rw[AZ.BA (by simp[k1])]at x1
        by_cases k2:g2=g+1
        ·subst k2
         rw[AZ.BD]at x2
         simp at x2;obtain⟨rfl,rfl⟩:=x2
         exact(hof _ _ _ _ _ hval v1 hat x1).symm
        ·rw[AZ.BA (by simp[k2])]at x2
         exact hof _ _ _ _ _ v1 v2 x1 x2
      ·intro g' hv' hl'
       simp only[List.length_cons]at hl'
       by_cases hgg:g'=g+1
       ·subst hgg
        refine⟨b,d,D,AZ.BD ..,hbase,LX D hheap,?_,by rw[Kl,jA];exact tX,?_⟩
        ·rw[<-hlast,Gh,jA];exact hroom
        ·intro i hi
         rw[<-hlast,Gh]at hi
         rw[er];exact fA i hi
       ·have hlt:g'<lens.length:=by omega
        obtain⟨b2,d2,C2,f1,f2,f3,f4,f5,f6⟩:=hmain g' hv' hlt
        have hgc:GN lens g'<=c.length:=fC hh2 g'
        by_cases hbb:b2=b
        ·subst hbb
         rw[hheap]at f3
         simp at f3;subst f3
         obtain rfl:=hof _ _ _ _ _ hval hv' hat f1
         refine⟨b2,d,D,by rw[AZ.BA (by simp[hgg])];exact f1,hbase,LX D hheap,by rw[FR hlt,jA];exact f4,by rw[fy g' hgg,jA];exact f5,?_⟩
         intro i hi
         rw[FR hlt]at hi
         rw[er];exact fA i (by omega)
        ·refine⟨b2,d2,C2,by rw[AZ.BA (by simp[hgg])];exact f1,f2,by rw[De.block _ hbb];exact f3,by rw[FR hlt];exact f4,by rw[fy g' hgg];exact f5,?_⟩
         intro i hi
         rw[FR hlt]at hi
         rw[er,f6 i hi,CY,List.getElem?_append_left (by simp;omega)]
     ·rename_i hrr
      have d2:I.dom r':=by
       rcases AZ.C8 d' with d2|d2
       ·exact d2
       ·exact absurd d2 hrr
      refine(k.rows r' row' e' d2).le hle' (fun s' p e''=>by rwa [AZ.BA (fun h=>hrr h.1)]at e'') (fun b' jy=>De.block b' (fun hbb=>?_))
      obtain⟨s',d3,hb'⟩:=jy
      subst hbb
      exact hrr (k.inj _ _ _ _ _ _ _ hb' hat hbase)
    ·rcases AZ.C8 d' with d2|d2
     ·exact k.lt r' d2
     ·subst d2;exact k.lt _ (BK i1.1)
    ·rw[De.size]
     by_cases hrs:r'=a.block/\s'=some (g+1)
     ·obtain⟨rfl,rfl⟩:=hrs
      rw[AZ.BD]at e'
      simp at e';rw[<-e'.1];exact k.size _ _ _ _ hat
     ·rw[AZ.BA hrs]at e';exact k.size _ _ _ _ e'
    ·rw[De.size];exact k.base
    ·exact k.tabs.same fun b' hb'=>De.block b' (by omega)
    ·have old:∀r' s' b' d',(I.plus a.block (some (g+1)) b (I.cap a.block g) d).at_ r' s'=some (b',d')->∃s'',I.at_ r' s''=some (b',d'):=by
      intro r' s' b' d' e'
      by_cases hrs:r'=a.block/\s'=some (g+1)
      ·obtain⟨rfl,rfl⟩:=hrs
       rw[AZ.BD]at e'
       simp at e';obtain⟨rfl,rfl⟩:=e'
       exact⟨_,hat⟩
      ·rw[AZ.BA hrs]at e';exact⟨_,e'⟩
     intro r1 r2 s1 s2 b' d1 d2 ZL e2' hb'
     obtain⟨_,f1⟩:=old _ _ _ _ ZL
     obtain⟨_,f2⟩:=old _ _ _ _ e2'
     exact k.inj _ _ _ _ _ _ _ f1 f2 hb'
   ·rw[Dp hcf]
    simp only[Nm,E4,AZ.BD,Kl]
    exact⟨⟨_,rfl⟩,by simpa using hfit⟩
   ·rw[DN ho,e1,e2,HD ht hu hd hsz (EC hn w) hfit c1]
    have hadd:(⟨b,d,none⟩:Addr).add (len*ie.size)=⟨b,d+c.length,none⟩:=by
     rw[hcl]
     unfold Addr.add
     split
     ·simp_all
     ·simp
    rw[CQ hcf]
    simp only[hadd,hrun,Result.andThen_ok,Ew,AZ.BD,CH,Kl]
    simp
  ·-- a new block
   obtain⟨c1,inc,hl1⟩:=Em (P:=P) (w:=w.drew) (fun a len cap row hy' hf hg=>kd.rows _ _ hg (BK (by rw[hy']at i2;rw[Dp hf]at i2;exact i2.1))) i2 hnc
   have hnl:=hl1 hyl
   have nZ:Dv h ie.size len (.slice (some a) len 0)=some c:=by
    simp only[Dv]
    rw[if_neg (Nat.not_le.2 hcf)]
    simp only[H.Bu,hg,Option.bind_some,Cr,hsp]
    rw[if_pos ⟨hval,bL,by rw[hoff,hgl];omega⟩,hoff,hcl]
    simp[cut]
   obtain⟨c2, -, -⟩:=Em (P:=P) (w:=w.drew) (fun a' len' cap' row hy' _ hg=>kd.rows _ _ hg (by simp at hy';rw[<-hy'.1];exact BK i1.1)) (by rw[Dp hcf];exact i1) nZ
   rw[CQ hcf,hra,hca]at c2
   obtain⟨Cp,hCp,hrun⟩:=HU (P:=P) (t:=t) (u:=u) (ty:=o.type) ht hu hd hi rfl (fun w=>(CO hz w).1) (EC (I:=I) hn w) (by omega) hsm c2 c1
   have hle':Le I (I.plus a.block (some (g+1)) w.heap.size Cp):=Le.plus hfresh
   have Kl:(I.plus a.block (some (g+1)) w.heap.size Cp).cap a.block (g+1)=Cp:=by simp[AZ.plus]
   have fy:∀g',g'≠g+1->(I.plus a.block (some (g+1)) w.heap.size Cp).cap a.block g'=I.cap a.block g':=fun g' hne=>by
    simp only[AZ.plus];rw[if_neg];rintro⟨-,h⟩;simp at h;omega
   obtain⟨er,ir⟩:=hle'.AX (c++nc) (Df.2 ⟨ic,inc⟩)
   generalize EM:Builtin.zeroCells z.cells (Cp - (len+n))=zs at hrun
   have hzs:zs.size=(Cp - (len+n)) *ie.size:=by rw[<-EM,Fy,EI];simp[hzl]
   generalize hob:Obj.cells ((⟨AX I c⟩:Array Value)++⟨AX I nc⟩++zs) e=ob at hrun
   have hold:∀b',b'<w.heap.size->(w.drew.alloc ob).heap[b']? =w.heap[b']? :=fun b' hb'=>heap_alloc_old w.drew ob hb'
   refine⟨I.plus a.block (some (g+1)) w.heap.size Cp,w.drew.alloc ob,_,⟨CK.plus hfresh (.inl (Nat.le_refl _)),fun _ d=>.inl ((AZ.C8 d).elim id (fun e=>e▸BK i1.1)),AZ.GF hlo⟩,?_,?_,⟨rfl,rfl,rfl,by simp,fun b' hb' _=>hold b' hb'⟩,?_,.inl rfl⟩
   ·refine⟨fun r' row' e' d'=>?_,fun r' d'=>?_,fun r' s' b' d' e'=>?_,?_,?_,?_,k.MO (BK i1.1)⟩
    ·simp only[H.put]at e'
     split at e'
     ·rename_i hrr
      simp at e';subst hrr;subst e'
      refine⟨ir,by simp,?_,?_,?_,?_⟩
      ·intro m hm
       rcases List.mem_cons.1 hm with rfl|hm
       ·simp
       ·have:=hh2 m hm;simp;omega
      ·intro g' p' e'
       by_cases hgg:g'=g+1
       ·simp;omega
       ·rw[AZ.BA (by simp[hgg])]at e'
        have:=hgen _ _ e';simp;omega
      ·intro g1 g2 b1 d1 d2 v1 v2 x1 x2
       by_cases k1:g1=g+1
       ·by_cases k2:g2=g+1
        ·subst k1;subst k2;rw[x1]at x2;simp at x2;exact x2
        ·subst k1
         rw[AZ.BD]at x1
         rw[AZ.BA (by simp[k2])]at x2
         simp at x1;obtain⟨rfl,rfl⟩:=x1
         have:=k.size _ _ _ _ x2;omega
       ·rw[AZ.BA (by simp[k1])]at x1
        by_cases k2:g2=g+1
        ·subst k2
         rw[AZ.BD]at x2
         simp at x2;obtain⟨rfl,rfl⟩:=x2
         have:=k.size _ _ _ _ x1;omega
        ·rw[AZ.BA (by simp[k2])]at x2
         exact hof _ _ _ _ _ v1 v2 x1 x2
      ·intro g' hv' hl'
       simp only[List.length_cons]at hl'
       by_cases hgg:g'=g+1
       ·subst hgg
        refine⟨w.heap.size,0,(⟨AX I c⟩:Array Value)++⟨AX I nc⟩++zs,AZ.BD ..,k.base,by rw[<-hob];exact heap_alloc w.drew _,?_,?_,?_⟩
        ·rw[<-hlast,Gh];simp
        ·rw[Kl,Nat.zero_add]
         simp only[Array.size_append,List.size_toArray,Cw,hnl,<-hcl,hzs,<-Nat.add_mul]
         congr 1;omega
        ·intro i hi
         rw[<-hlast,Gh]at hi
         rw[er,CY,Nat.zero_add,Array.getElem?_append,if_pos (by simpa using hi)]
         simp
       ·have hlt:g'<lens.length:=by omega
        obtain⟨b2,d2,C2,f1,f2,f3,f4,f5,f6⟩:=hmain g' hv' hlt
        have hgc:GN lens g'<=c.length:=fC hh2 g'
        refine⟨b2,d2,C2,by rw[AZ.BA (by simp[hgg])];exact f1,f2,by rw[hold _ (k.size _ _ _ _ f1)];exact f3,by rw[FR hlt];exact f4,by rw[fy g' hgg];exact f5,?_⟩
        intro i hi
        rw[FR hlt]at hi
        rw[er,f6 i hi,CY,List.getElem?_append_left (by simp;omega)]
     ·rename_i hrr
      have d2:I.dom r':=by
       rcases AZ.C8 d' with d2|d2
       ·exact d2
       ·exact absurd d2 hrr
      refine(k.rows r' row' e' d2).le hle' (fun s' p e''=>by rwa [AZ.BA (fun h=>hrr h.1)]at e'') (fun b' jy=>?_)
      obtain⟨s',d3,hb'⟩:=jy
      exact hold _ (k.size _ _ _ _ hb')
    ·rcases AZ.C8 d' with d2|d2
     ·exact k.lt r' d2
     ·subst d2;exact k.lt _ (BK i1.1)
    ·by_cases hrs:r'=a.block/\s'=some (g+1)
     ·obtain⟨rfl,rfl⟩:=hrs
      rw[AZ.BD]at e'
      simp at e';simp[<-e'.1]
     ·rw[AZ.BA hrs]at e';have:=k.size _ _ _ _ e';simp;omega
    ·have:=k.base;simp[AZ.plus];omega
    ·have:=k.base;exact k.tabs.same fun b' hb'=>hold b' (by omega)
    ·intro r1 r2 s1 s2 b' d1 d2 ZL e2' hb'
     by_cases h1:r1=a.block/\s1=some (g+1)
     ·by_cases h2:r2=a.block/\s2=some (g+1)
      ·rw[h1.1,h2.1]
      ·rw[AZ.BA h2]at e2'
       obtain⟨rfl,rfl⟩:=h1
       rw[AZ.BD]at ZL
       have:=k.size _ _ _ _ e2'
       simp at ZL;omega
     ·rw[AZ.BA h1]at ZL
      by_cases h2:r2=a.block/\s2=some (g+1)
      ·obtain⟨rfl,rfl⟩:=h2
       rw[AZ.BD]at e2'
       have:=k.size _ _ _ _ ZL
       simp at e2';omega
      ·rw[AZ.BA h2]at e2'
       exact k.inj _ _ _ _ _ _ _ ZL e2' hb'
   ·rw[Dp hcf]
    simp only[Nm,E4,AZ.BD,Kl]
    exact⟨⟨_,rfl⟩,by simpa using hCp⟩
   ·rw[DN ho,e1,e2,hrun,CQ hcf]
    simp only[Result.andThen_ok,Ew,AZ.BD,CH,Kl]
    simp
 ·simp at ha


theorem az (hρ:Ev I ts ρ) (ho:o.op= .call ⟨.builtin .append, #[x,y], #[t,u]⟩) (ht:P.underlying t=some (.slice e)) (hu:P.underlying u=some d) (hd:∀k,d≠ .int k) (hi:P.info? e=some ie)
 (hz:Fx P e=some z) (h0:ie.size≠0) (hzl:(Bf z).length=ie.size) (hx:Bw x=some x') (hy:Bw y=some y') (k:Rel I h w) (Jt:¬I.dom Br) (hnx:Br<h.next) (hlo:lo<=Br)
 (ha:EE lo Br e ie.size ie.bytes (ev ts x') (ev ts y') h=some (v,h')):Ld P I ρ o lo Br h' v w:=by
 obtain⟨e1,i1⟩:=hρ x x' hx
 obtain⟨e2,i2⟩:=hρ y y' hy
 have hsz:sizeT P e=some ie.size:=by simp[sizeT,hi]
 unfold EE at ha
 simp only[Option.bind_eq_some_iff]at ha
 obtain⟨n,hn,ha⟩:=ha
 split at ha
 ·rename_i hn0
  subst hn0
  split at ha<;>simp at ha
  rename_i a len cap hs
  obtain⟨rfl,rfl⟩:=ha
  rw[hs]at e1 i1
  have hrun:=Lb (P:=P) (I:=I) (sz:=ie.size) hn w
  refine⟨I,w,_,⟨CK.refl I w,fun _ d=>.inl d,fun _ _ _ _ e=>e⟩,k,by rw[hs];exact i1,Ext.refl I lo w,?_,.inl rfl⟩
  cases a with
  | none=>
    simp only[In]at i1
    obtain⟨rfl,rfl⟩:=i1
    simp only[ren]at e1
    rw[DN ho,e1,e2,HD ht hu hd hsz (EC hn w) (by omega) hrun,hs]
    simp[ren]
  | some a=>
    rcases Nat.lt_or_ge cap far with hcf|hcf
    ·rw[Dp hcf]at i1
     obtain⟨b,hb⟩:=Ek i1.1
     rw[CQ hcf,hb]at e1
     rw[DN ho,e1,e2,HD ht hu hd hsz (EC hn w) (by have:=nS i1.2;omega) hrun,hs]
     simp[storeCells,CQ hcf,hb]
    ·rw[Mj hcf]at i1
     obtain⟨i1, -⟩:=i1
     rw[Et hcf]at e1
     rw[DN ho,e1,e2,HD ht hu hd hsz (EC hn w) (by omega) hrun,hs]
     simp[storeCells,Et hcf]
 ·rename_i hn0
  simp only[Option.bind_eq_some_iff]at ha
  obtain⟨nc,hnc,ha⟩:=ha
  split at ha
  ·rename_i a len cap hs
   split at ha
   ·split at ha<;>try simp at ha
    rename_i hcc
    obtain⟨hc,hl0,hsm⟩:=hcc
    subst hc hl0
    simp only[Ef,Option.some.injEq,Prod.mk.injEq]at ha
    obtain⟨rfl,rfl⟩:=ha
    rw[hs]at e1
    rw[Et (Nat.le_refl _),Ko,Kn]at e1
    have kd:=k.drew
    have hyl:(∀l c',ev ts y'≠ .slice none l c'):=by
     intro l c' hyn
     rw[hyn]at i2 hn
     simp only[In]at i2
     simp[FK]at hn
     omega
    obtain⟨c1,inc,hl1⟩:=Em (P:=P) (w:=w.drew) (fun a len cap row hy' hf hg=>kd.rows _ _ hg (BK (by rw[hy']at i2;rw[Dp hf]at i2;exact i2.1))) i2 hnc
    obtain⟨C,hC,hrun⟩:=HU (P:=P) (t:=t) (u:=u) (ty:=o.type) (sLen:=0) (sCap:=0) (base:=some a) (old:= #[]) ht hu hd hi rfl (fun w=>(CO hz w).1) (EC (I:=I) hn w) (by omega) (by rw[Nat.zero_add];exact hsm) (by simp[Builtin.firstCells,loadCells,loadCellsFrom]) c1
    rw[Nat.zero_add]at hC hrun
    obtain⟨r1,r2,r3,r4,r5⟩:=k.Ef (e:=e) Jt hnx inc (hl1 hyl) hC (Builtin.zeroCells z.cells (C - n)) (by rw[Fy,EI];simp[hzl])
    refine⟨_,_,_,⟨r2,fun _ d=>AZ.C8 d,AZ.GF hlo⟩,r1,r5,r3.mono hlo,?_,.inl rfl⟩
    rw[DN ho,e1,e2,hrun,r4]
    simp
   rename_i hcf
   have hcf:=Nat.not_le.1 hcf
   unfold KY at ha
   split at ha
   ·rename_i hsp
    exact UC hρ ho ht hu hd hi hz h0 hzl hx hy k Jt hnx hlo hs hcf (by simp[CH,hsp]) (fun m hm=>by simp[E4,hsp];exact hm) hn hnc hn0 ha
   ·rename_i g hsp
    split at ha
    ·rename_i hodd
     exact UC hρ ho ht hu hd hi hz h0 hzl hx hy k Jt hnx hlo hs hcf (by simp[CH,hsp,hodd]) (fun m hm=>by simp[E4,hsp,hodd];exact hm) hn hnc hn0 ha
    ·simp only[Option.bind_eq_some_iff]at ha
     obtain⟨row,hg,ha⟩:=ha
     exact rM hρ ho ht hu hd hi hz h0 hzl hx hy k hs hcf hsp hg hn hnc hn0 ha
  ·rename_i hs
   split at ha
   ·rename_i hsm
    simp only[Ef,Option.some.injEq,Prod.mk.injEq]at ha
    obtain⟨rfl,rfl⟩:=ha
    rw[hs]at e1
    simp only[ren]at e1
    have kd:=k.drew
    have hyl:(∀l c',ev ts y'≠ .slice none l c'):=by
     intro l c' hyn
     rw[hyn]at i2 hn
     simp only[In]at i2
     simp[FK]at hn
     omega
    obtain⟨c1,inc,hl1⟩:=Em (P:=P) (w:=w.drew) (fun a len cap row hy' hf hg=>kd.rows _ _ hg (BK (by rw[hy']at i2;rw[Dp hf]at i2;exact i2.1))) i2 hnc
    obtain⟨C,hC,hrun⟩:=HU (P:=P) (t:=t) (u:=u) (ty:=o.type) (sLen:=0) (sCap:=0) (base:=none) (old:= #[]) ht hu hd hi rfl (fun w=>(CO hz w).1) (EC (I:=I) hn w) (by omega) (by rw[Nat.zero_add];exact hsm) (by simp[Builtin.firstCells]) c1
    rw[Nat.zero_add]at hC hrun
    obtain⟨r1,r2,r3,r4,r5⟩:=k.Ef (e:=e) Jt hnx inc (hl1 hyl) hC (Builtin.zeroCells z.cells (C - n)) (by rw[Fy,EI];simp[hzl])
    refine⟨_,_,_,⟨r2,fun _ d=>AZ.C8 d,AZ.GF hlo⟩,r1,r5,r3.mono hlo,?_,.inl rfl⟩
    rw[DN ho,e1,e2,hrun,r4]
    simp
   ·simp at ha
  ·simp at ha

theorem lY (hρ:Ev I ts ρ) {sz:Nat}(ho:o.op= .call ⟨.builtin .copy, #[x,y], #[t,u]⟩) (ht:P.underlying t=some (.slice e)) (hs:sizeT P e=some sz) (hx:Bw x=some x') (hy:Bw y=some y') (k:Rel I h w)
 (ha:N8 lo sz (ev ts x') (ev ts y') h=some (v,h')):Ld P I ρ o lo Br h' v w:=by
 obtain⟨e1,i1⟩:=hρ x x' hx
 obtain⟨e2,i2⟩:=hρ y y' hy
 have FG:(execOp ρ o).run P w=((Builtin.copy_ #[t,u] o.type #[ρ x,ρ y]).run P w).andThen fun a w'=>.ok (.value a) w':=by
  simp[execOp,ho,resolve,invoke,builtin]
 unfold N8 at ha
 split at ha
 ·rename_i base len cap hsx
  rw[hsx]at e1 i1
  split at ha
  ·simp at ha
  rename_i hcf
  have hcf:=Nat.not_le.1 hcf
  simp only[Option.bind_eq_some_iff]at ha
  obtain⟨m,hm,nc,hnc,ha⟩:=ha
  obtain⟨c1,inc,hl1⟩:=Em (P:=P) (w:=w) (fun a len cap row hy' hf hg=>k.rows _ _ hg (BK (by rw[hy']at i2;rw[Dp hf]at i2;exact i2.1))) i2 hnc
  have hmin:Nat.min m len=if m<=len then m else len:=by
   show min m len=_
   rw[Nat.min_def]
  generalize (if m<=len then m else len)=nn at*
  have hlen:=EC (P:=P) (I:=I) hm w
  split at ha
  ·rename_i a
   rw[Dp hcf]at i1
   obtain⟨b,hb⟩:=Ek i1.1
   rw[CQ hcf,hb]at e1
   simp only[Option.map_eq_some_iff,Prod.mk.injEq]at ha
   obtain⟨h'',hst,rfl,rfl⟩:=ha
   split at hst
   ·rename_i hn0
    simp at hst;subst hst
    refine⟨I,w,_,⟨CK.refl I w,fun _ d=>.inl d,fun _ _ _ _ e=>e⟩,k,by simp[In],Ext.refl I lo w,?_,.inl rfl⟩
    rw[hn0]at c1 hnc
    have Am8:AX I nc=[]:=by
     have h00:=Lb (P:=P) (I:=I) (sz:=sz) hm w
     rw[h00]at c1
     injection c1 with c1 _
     exact(congrArg Array.toList c1).symm
    rw[FG,e1,e2]
    simp[Builtin.copy_,run_underlying ht,Cs hs,hlen,hmin,hn0,c1,Am8,storeCells,goInt,ren]
   ·rename_i hn0
    cases hg:h.get a.block with
    | none=>
      unfold H.En at hst
      rw[hg]at hst
      split at hst<;>simp at hst
    | some row=>
      obtain⟨oe,b',row',w',hb',rfl,hrun,hrow,De,hbase,hat⟩:=Jw (P:=P) hg (k.rows _ _ hg (BK i1.1)) i1.1 inc hst
      rw[hb]at hb';simp at hb';subst hb'
      obtain⟨s0,d0,hs0⟩:=hat
      refine⟨I,w',_,⟨CK.refl I w,fun _ d=>.inl d,fun _ _ _ _ e=>e⟩,k.store hbase ⟨s0,_,hs0⟩ De hrow,by simp[In],De.ext oe hs0 hbase,?_,.inl rfl⟩
      rw[FG,e1,e2]
      simp[Builtin.copy_,run_underlying ht,Cs hs,hlen,hmin,c1,hrun,goInt,ren]
  ·simp at ha
   obtain⟨rfl,rfl⟩:=ha
   simp only[ren]at e1
   refine⟨I,w,_,⟨CK.refl I w,fun _ d=>.inl d,fun _ _ _ _ e=>e⟩,k,by simp[In],Ext.refl I lo w,?_,.inl rfl⟩
   rw[FG,e1,e2]
   simp[Builtin.copy_,run_underlying ht,Cs hs,hlen,hmin,c1,goInt,ren]
 ·simp at ha

theorem Rw (z:List Value) (n:Nat):(Builtin.zeroCells ⟨z⟩ n).toList=HX z n:=by
 show((Array.range (n*z.length)).map fun i=>(⟨z⟩:Array Value)[i%(⟨z⟩:Array Value).size]!).toList=_
 rw[V6 z n _ rfl]

theorem rO (hρ:Ev I ts ρ) {z:Value}(ho:o.op= .call ⟨.builtin .clear, #[x], #[t]⟩) (ht:P.underlying t=some (.slice e)) (hz:Fx P e=some z) (hx:Bw x=some x') (k:Rel I h w)
 (ha:ZU lo (Bf z) (ev ts x') h=some (v,h')):Ld P I ρ o lo Br h' v w:=by
 obtain⟨e1,i1⟩:=hρ x x' hx
 have FG:(execOp ρ o).run P w=((Builtin.clear_ #[t] o.type #[ρ x]).run P w).andThen fun a w'=>.ok (.value a) w':=by
  simp[execOp,ho,resolve,invoke,builtin]
 have fm:=(CO hz w).2
 unfold ZU at ha
 split at ha
 ·rename_i a n cap hsx
  rw[hsx]at e1 i1
  split at ha
  ·rename_i h0
   simp only[Option.some.injEq,Prod.mk.injEq]at ha
   obtain⟨rfl,rfl⟩:=ha
   refine⟨I,w,_,⟨CK.refl I w,fun _ d=>.inl d,fun _ _ _ _ e=>e⟩,k,by simp[In,C5],Ext.refl I lo w,?_,.inl rfl⟩
   subst h0
   rw[FG,e1]
   rcases Nat.lt_or_ge cap far with hcf|hcf
   ·rw[CQ hcf]
    cases Ew I a<;>simp[Builtin.clear_,run_underlying ht,ren,AX]
   ·rw[Et hcf]
    simp[Builtin.clear_,run_underlying ht,ren,AX]
  ·rename_i h0
   split at ha
   ·simp at ha
   ·rename_i hcf
    have hcf:=Nat.not_le.1 hcf
    simp only[Option.map_eq_some_iff,Prod.mk.injEq]at ha
    obtain⟨h'',hst,rfl,rfl⟩:=ha
    rw[Dp hcf]at i1
    obtain⟨b,hb⟩:=Ek i1.1
    rw[CQ hcf,hb]at e1
    cases hg:h.get a.block with
    | none=>
      unfold H.En at hst
      rw[hg]at hst
      split at hst<;>simp at hst
    | some row=>
      have hzL:DZ (Bf z)=true:=by
       cases z<;>simp_all[Bf,DZ,flat]
      obtain⟨er,inc⟩:=FT I _ (Mt hzL n)
      obtain⟨oe,b',row',w',hb',rfl,hrun,hrow,De,hbase,hat⟩:=Jw (P:=P) hg (k.rows _ _ hg (BK i1.1)) i1.1 inc hst
      rw[hb]at hb';simp at hb';subst hb'
      obtain⟨s0,d0,hs0⟩:=hat
      refine⟨I,w',_,⟨CK.refl I w,fun _ d=>.inl d,fun _ _ _ _ e=>e⟩,k.store hbase ⟨s0,_,hs0⟩ De hrow,by simp[In,C5],De.ext oe hs0 hbase,?_,.inl rfl⟩
      rw[FG,e1]
      rw[er]at hrun
      have EM:(Builtin.zeroCells z.cells n).toList=HX (Bf z) n:=by rw[EI,Rw]
      simp[Builtin.clear_,run_underlying ht,(CO hz _).1,EM,hrun,ren,AX,h0]
 ·rename_i hsx
  rw[hsx]at e1 i1
  simp only[Option.some.injEq,Prod.mk.injEq]at ha
  obtain⟨rfl,rfl⟩:=ha
  simp only[ren]at e1
  refine⟨I,w,_,⟨CK.refl I w,fun _ d=>.inl d,fun _ _ _ _ e=>e⟩,k,by simp[In,C5],Ext.refl I lo w,?_,.inl rfl⟩
  rw[FG,e1]
  simp[Builtin.clear_,run_underlying ht,ren,AX]
 ·simp at ha

end sims
end
end AE

/- Maps. -/
namespace AE
open Go Go.RowKit

section
variable {P:Program}{I:AZ}{ts:Ts}{ρ:Operand->Value}

theorem M6 {α β:Type}(P:Program) (f:α->Sem β):∀x:Sem α,Bl P (x.bind f)=(Bl P x).bind fun a=>Bl P (f a)
 |.pure a=>rfl
 |.program k=>by simp only[Sem.bind,Bl];exact M6 P f (k P)
 |.load _ _ _=>rfl
 |.store _ _ _ _=>rfl
 |.new _ _=>rfl
 |.shape _ _=>rfl
 |.freeze _ _ _=>rfl
 |.frozen _ _=>rfl
 |.getObj _ _=>rfl
 |.setObj _ _ _=>rfl
 |.choose _ _=>rfl
 |.sys _ _=>rfl
 |.mark _ _=>rfl
 |.halt _=>rfl
theorem BB {α β:Type}(P:Program) (x:Sem α) (f:α->Sem β):Bl P (x >>= f)=(Bl P x).bind fun a=>Bl P (f a):=M6 P f x

def found (g:MapEntry->MapEntry) (es:List MapEntry) (i:Nat):Option (Nat × Value)->Option (Nat × Value)
 |none=>none
 |some (j,_)=>(es[j - i]?).map fun e=>(j,(g e).val)

theorem S9 {g:MapEntry->MapEntry}{e:MapEntry}{es:List MapEntry}{i:Nat}{r:Option (Nat × Value)}(h:∀p,r=some p->i+1<=p.1):found g (e::es) i r=found g es (i+1) r:=by
 cases r with
 |none=>rfl
 | some p=>
   have:=h p rfl
   simp only[found]
   rw[show p.1 - i=(p.1 - (i+1))+1 by omega,List.getElem?_cons_succ]

theorem Qx (kd:TypeDesc) (k:Value) (f g:MapEntry->MapEntry) (hk:∀e,(f e).key=(g e).key):∀(es:List MapEntry) (i:Nat),
 (Instr.findNow kd k (es.map f) i=none->Instr.findNow kd k (es.map g) i=none)/\
 ∀r,Instr.findNow kd k (es.map f) i=some r->Instr.findNow kd k (es.map g) i=some (found g es i r)/\(∀p,r=some p->i<=p.1)
 |[],i=>by simp[Instr.findNow,found]
 | e ::es,i=>by
   obtain⟨ih1,ih2⟩:=Qx kd k f g hk es (i+1)
   simp only[List.map_cons,Instr.findNow,hk]
   cases Instr.sameNow kd k (g e).key with
   |none=>simp
   | some b=>
     cases b with
     | true=>
       simp only[reduceCtorEq,false_implies,true_and]
       intro r hr
       simp at hr;subst hr
       simp[found]
     | false=>
       refine⟨ih1,fun r hr=>?_⟩
       obtain⟨h1,h2⟩:=ih2 r hr
       refine⟨by rw[S9 h2];exact h1,fun p hp=>by have:=h2 p hp;omega⟩

theorem L5 (kt:TypeId) (k:Value) (f g:MapEntry->MapEntry) (hk:∀e,(f e).key=(g e).key) (w:World):∀(es:List MapEntry) (i:Nat) (r:Option (Nat × Value)),
 Bl P (Instr.findAsking kt k (es.map f) i)=some r->(Instr.findAsking kt k (es.map g) i).run P w= .ok (found g es i r) w/\(∀p,r=some p->i<=p.1)
 | [],i,r,h=>by
   simp[Instr.findAsking,Bl,Pure.pure]at h
   subst h
   simp[Instr.findAsking,found]
 | e ::es,i,r,h=>by
   simp only[List.map_cons,Instr.findAsking,BB,Option.bind_eq_some_iff]at h
   obtain⟨b,hb,h⟩:=h
   rw[hk e]at hb
   have hrun:=HM P _ _ hb w
   simp only[List.map_cons,Instr.findAsking,Sem.run_bind,hrun,Result.andThen_ok]
   cases b with
   | true=>
     simp[Bl,Pure.pure]at h
     subst h
     simp[found]
   | false=>
     obtain⟨h1,h2⟩:=L5 kt k f g hk w es (i+1) r (by simpa using h)
     refine⟨?_,fun p hp=>by have:=h2 p hp;omega⟩
     rw[S9 h2]
     simpa using h1

theorem Y2 {kt:TypeId}{k:Value}{f g:MapEntry->MapEntry}(hk:∀e,(f e).key=(g e).key) {es:List MapEntry}{r:Option (Nat × Value)}(h:Bl P (Instr.findKey kt k (es.map f))=some r) (w:World):
 (Instr.findKey kt k (es.map g)).run P w= .ok (found g es 0 r) w:=by
 unfold Instr.findKey at*
 simp only[BB,Option.bind_eq_some_iff]at h
 obtain⟨d,hd,h⟩:=h
 have hdr:=HM P _ _ hd w
 obtain⟨n1,n2⟩:=Qx d k f g hk es 0
 simp only[Sem.run_bind,hdr,Result.andThen_ok]
 cases hf:Instr.findNow d k (es.map f) 0 with
 | none=>
   rw[hf]at h
   rw[n1 hf]
   exact(L5 kt k f g hk w es 0 r h).1
 | some r'=>
   rw[hf]at h
   simp[Bl,Pure.pure]at h
   subst h
   rw[(n2 r' hf).1]
   simp

theorem Ks {empty:Bool}{kt:TypeId}{k:Value}{es:List MapEntry}{r:Option Nat}(h:F0 P empty kt k es=some r) (w:World):
 flat k=true/\(Instr.checkKey empty 10000 kt k).run P w= .ok () w/\(Instr.findKey kt k (es.map (Dl I))).run P w= .ok (r.bind fun i=>(es[i]?).map fun e=>(i,ren I e.val)) w:=by
 unfold F0 at h
 split at h
 ·rename_i hc
  obtain⟨hk,hes,hch⟩:=hc
  refine⟨hk,?_,?_⟩
  ·obtain⟨u,hu⟩:=Option.isSome_iff_exists.1 hch
   exact HM P _ _ hu w
  ·simp only[Option.map_eq_some_iff]at h
   obtain⟨q,hq,rfl⟩:=h
   have hmap:es.map (Dl I)=es.map (fun e=>if flat e.key then Dl I e else⟨e.key,undef,e.born⟩):=by
    apply List.map_congr_left
    intro e he
    rw[if_pos (List.all_eq_true.1 hes e he)]
   rw[hmap]
   have:=Y2 (P:=P) (f:=fun e=>⟨e.key,undef,e.born⟩) (g:=fun e=>if flat e.key then Dl I e else⟨e.key,undef,e.born⟩) (fun e=>by
    by_cases hf:flat e.key=true
    ·simp[hf,Dl,(Cg I _ hf).1]
    ·simp[hf]) hq w
   rw[this]
   congr 1
   cases q with
   |none=>rfl
   | some p=>
     simp only[found,Nat.sub_zero,Option.map_some,Option.bind_some]
     cases he:es[p.1]? with
     |none=>rfl
     |some e=>simp[List.all_eq_true.1 hes e (List.mem_of_getElem? he),Dl]
 ·simp at h

section sims
variable {o:Oper}{t kt e:TypeId}{m kk vv:Operand}{m' k' v':BH}{z:Value}{lo:Nat}{ok:Bool}{h h':H}{w:World}{v:Value}

theorem au (hρ:Ev I ts ρ) (ho:o.op= .lookup t m kk ok) (ht:P.underlying t=some (.map kt e)) (hz:Fx P e=some z) (hm:Bw m=some m') (hk:Bw kk=some k') (k:Rel I h w)
 (ha:DV P kt z ok (ev ts k') h (ev ts m')=some v):In I v/\(execOp ρ o).run P w= .ok (.value (ren I v)) w:=by
 obtain⟨e1,i1⟩:=hρ m m' hm
 obtain⟨e2, -⟩:=hρ kk k' hk
 obtain⟨hzr,fm⟩:=CO hz w
 obtain⟨ez,iz⟩:=Cg I z fm
 unfold DV at ha
 split at ha
 ·rename_i r hr
  rw[hr]at e1 i1
  simp only[ren,In]at e1 i1
  split at ha
  ·rename_i es c hg
   simp only[Option.bind_eq_some_iff]at ha
   obtain⟨q,hq,ha⟩:=ha
   obtain⟨b0,hb0⟩:=i1
   obtain⟨ie,b,hat,hbase,hheap⟩:=k.rows _ _ hg ⟨_,_,hb0⟩
   have hblk:I.blk r=b:=by simp[AZ.blk,hat]
   rw[hblk]at e1
   obtain⟨tT,hck,Pk⟩:=Ks (I:=I) hq w
   rw[(Cg I _ tT).1]at e2
   have hget:(getObj b).run P w= .ok (.map ⟨es.map (Dl I)⟩ c) w:=by simp[getObj,Sem.run,hheap]
   have hemp:(⟨es.map (Dl I)⟩:Array MapEntry).isEmpty=es.isEmpty:=by cases es<;>simp
   cases q with
   | none=>
     simp only[Na,Option.some.injEq]at ha
     subst ha
     simp only[Option.bind_none]at Pk
     cases ok
     ·refine⟨by simpa using iz,?_⟩
      simp[execOp,ho,e1,e2,Instr.lookup,run_underlying ht,hget,hemp,hck,Pk,hzr,ez]
     ·refine⟨by simp[In,C5,iz],?_⟩
      simp[execOp,ho,e1,e2,Instr.lookup,run_underlying ht,hget,hemp,hck,Pk,hzr,ez,ren,AX]
   | some i=>
     simp only[Na,Option.map_eq_some_iff]at ha
     obtain⟨x,hx,rfl⟩:=ha
     simp only[Option.bind_some,hx,Option.map_some]at Pk
     have hix:=(ie x (List.mem_of_getElem? hx)).2
     cases ok
     ·refine⟨by simpa using hix,?_⟩
      simp[execOp,ho,e1,e2,Instr.lookup,run_underlying ht,hget,hemp,hck,Pk]
     ·refine⟨by simp[In,C5,hix],?_⟩
      simp[execOp,ho,e1,e2,Instr.lookup,run_underlying ht,hget,hemp,hck,Pk,ren,AX]
  ·simp at ha
 ·rename_i hr
  rw[hr]at e1
  simp only[ren]at e1
  simp only[Option.bind_eq_some_iff]at ha
  obtain⟨q,hq,ha⟩:=ha
  obtain⟨tT,hck,Pk⟩:=Ks (I:=I) hq w
  rw[(Cg I _ tT).1]at e2
  simp only[List.map_nil]at Pk
  cases q with
  | none=>
    simp only[Na,Option.some.injEq]at ha
    subst ha
    simp only[Option.bind_none]at Pk
    cases ok
    ·refine⟨by simpa using iz,?_⟩
     simp[execOp,ho,e1,e2,Instr.lookup,run_underlying ht,hck,Pk,hzr,ez]
    ·refine⟨by simp[In,C5,iz],?_⟩
     simp[execOp,ho,e1,e2,Instr.lookup,run_underlying ht,hck,Pk,hzr,ez,ren,AX]
  |some i=>simp[Na]at ha
 ·simp at ha

end sims
end
end AE

/- Maps: a store, a delete, the length. -/
namespace AE
open Go Go.RowKit

section
variable {P:Program}{I:AZ}{ts:Ts}{ρ:Operand->Value}

def putObj (w:World) (b:Nat) (o:Obj):World:={w with heap:=w.heap.setIfInBounds b o}

theorem EK {w:World}{b:Nat}{es:Array MapEntry}{c:Nat}(h:w.heap[b]? =some (.map es c)):(getObj b).run P w= .ok (.map es c) w:=by simp[getObj,Sem.run,h]
theorem FA {w:World}{b:Nat}{es:Array MapEntry}{c:Nat}(h:w.heap[b]? =some (.map es c)) (o:Obj):(setObj b o).run P w= .ok () (putObj w b o):=by simp[setObj,Sem.run,h,putObj]
theorem But.putObj (w:World) (b:Nat) (o:Obj):But b w (putObj w b o):=by
 refine⟨rfl,rfl,rfl,by simp[AE.putObj],fun k hk=>?_⟩
 simp only[AE.putObj]
 rw[Array.getElem?_setIfInBounds_ne (fun e=>hk e.symm)]
theorem aL {w:World}{b:Nat}{es:Array MapEntry}{c:Nat}(h:w.heap[b]? =some (.map es c)) (o:Obj):(putObj w b o).heap[b]? =some o:=by
 obtain⟨hb, -⟩:=Array.getElem?_eq_some_iff.1 h
 simp[putObj,Array.getElem?_setIfInBounds,hb]

theorem LQ {es:List MapEntry}{i:Nat}{x:MapEntry}{k v:Value}(hx:es[i]? =some x):
 (⟨es.map (Dl I)⟩:Array MapEntry).modify i (fun e=>{e with key:=ren I k,val:=ren I v})=⟨(es.set i ⟨k,v,x.born⟩).map (Dl I)⟩:=by
 apply Array.ext'
 rw[Array.toList_modify]
 apply List.ext_getElem?
 intro j
 simp only[List.getElem?_modify,List.getElem?_map,List.getElem?_set]
 by_cases hij:i=j
 ·subst hij
  obtain⟨hl,he⟩:=List.getElem?_eq_some_iff.1 hx
  subst he
  simp[hl,Dl]
 ·simp[hij]

theorem map_eraseIdx {α β:Type}(f:α->β):∀(l:List α) (i:Nat),(l.map f).eraseIdx i=(l.eraseIdx i).map f
 |[],_=>rfl
 |a::l,0=>rfl
 |a::l,i+1=>by simp only[List.map_cons,List.eraseIdx_cons_succ,map_eraseIdx f l i]

variable {o:Oper}{t kt e u:TypeId}{m kk vv x y:Operand}{m' k' v' x' y':BH}{lo Br:Nat}{h h':H}{w:World}{v:Value}

theorem Ld.mapped {r b c c':Nat}{es es':List MapEntry}{nx:Next}(k:Rel I h w) (hlo:lo<=r) (hat:I.at_ r none=some (b,0)) (hbase:I.base<=b) (hh:w.heap[b]? =some (.map ⟨es.map (Dl I)⟩ c))
 (hes:∀e∈es',wI I e) (hv:In I v) (hrun:(execOp ρ o).run P w= .ok nx (putObj w b (.map ⟨es'.map (Dl I)⟩ c'))) (hnx:nx= .value (ren I v)\/(nx= .skip/\v=undef)):Ld P I ρ o lo Br (h.put r (.map es' c')) v w:=by
 have De:=But.putObj w b (.map ⟨es'.map (Dl I)⟩ c')
 exact⟨I,_,_,⟨CK.refl I w,fun _ d=>.inl d,fun _ _ _ _ e=>e⟩,k.store hbase ⟨_,_,hat⟩ De ⟨hes,b,hat,hbase,aL hh _⟩,hv,De.ext hlo hat hbase,hrun,hnx⟩

theorem av (hρ:Ev I ts ρ) (ho:o.op= .call ⟨.builtin .len, #[x], #[t]⟩) (ht:P.underlying t=some (.map kt e)) (hx:Bw x=some x') (k:Rel I h w)
 (ha:N6 h (ev ts x')=some v):In I v/\(execOp ρ o).run P w= .ok (.value (ren I v)) w:=by
 obtain⟨e1,i1⟩:=hρ x x' hx
 unfold N6 at ha
 split at ha
 ·rename_i r hr
  rw[hr]at e1 i1
  simp only[ren,In]at e1 i1
  split at ha
  ·rename_i es c hg
   simp at ha;subst ha
   obtain⟨b0,hb0⟩:=i1
   obtain⟨ie,b,hat,hbase,hheap⟩:=k.rows _ _ hg ⟨_,_,hb0⟩
   have hblk:I.blk r=b:=by simp[AZ.blk,hat]
   rw[hblk]at e1
   refine⟨by simp[In],?_⟩
   simp[execOp,ho,resolve,invoke,builtin,Builtin.len_,e1,run_underlying ht,EK hheap,goInt,ren]
  ·simp at ha
 ·rename_i hr
  rw[hr]at e1
  simp only[ren]at e1
  simp at ha;subst ha
  refine⟨by simp[In],?_⟩
  simp[execOp,ho,resolve,invoke,builtin,Builtin.len_,e1,run_underlying ht,goInt,ren]
 ·simp at ha

theorem UB (hρ:Ev I ts ρ) (ho:o.op= .mapUpdate t m kk vv\/o.op= .insert t m kk vv) (ht:P.underlying t=some (.map kt e)) (hm:Bw m=some m') (hk:Bw kk=some k') (hv:Bw vv=some v') (k:Rel I h w)
 (ha:Pm P lo kt (ev ts k') (ev ts v') h (ev ts m')=some h'):Ld P I ρ o lo Br h' undef w:=by
 obtain⟨e1,i1⟩:=hρ m m' hm
 obtain⟨e2,i2⟩:=hρ kk k' hk
 obtain⟨e3,i3⟩:=hρ vv v' hv
 unfold Pm at ha
 split at ha
 ·rename_i r hr
  rw[hr]at e1 i1
  simp only[ren,In]at e1 i1
  split at ha
  ·rename_i hlo
   split at ha
   ·rename_i es c hg
    simp only[Option.bind_eq_some_iff]at ha
    obtain⟨q,hq,ha⟩:=ha
    obtain⟨b0,hb0⟩:=i1
    obtain⟨ie,b,hat,hbase,hheap⟩:=k.rows _ _ hg ⟨_,_,hb0⟩
    have hblk:I.blk r=b:=by simp[AZ.blk,hat]
    rw[hblk]at e1
    obtain⟨tT,hck,Pk⟩:=Ks (I:=I) hq w
    have fq:=(Cg I _ tT).1
    have FG:(execOp ρ o).run P w=((Instr.mapUpdate t (ρ m) (ρ kk) (ρ vv)).run P w).andThen fun _ w'=>.ok .skip w':=by
     rcases ho with ho|ho<;>simp[execOp,ho]
    cases q with
    | none=>
      simp only[Oy,Option.some.injEq]at ha
      subst ha
      simp only[Option.bind_none]at Pk
      refine Ld.mapped (es:=es) k hlo hat hbase hheap (fun e he=>?_) (by simp[undef,In,C5]) (nx:=.skip) ?_ (.inr ⟨rfl,rfl⟩)
      ·rcases List.mem_append.1 he with he|he
       ·exact ie e he
       ·simp at he;subst he;exact⟨i2,i3⟩
      ·rw[FG,e1,e2,e3,fq]
       simp[Instr.mapUpdate,run_underlying ht,EK hheap,hck,Pk,FA hheap,Dl,fq]
    | some i=>
      simp only[Oy,Option.bind_eq_some_iff]at ha
      obtain⟨x,hx,ha⟩:=ha
      split at ha
      ·rename_i YQ
       simp at ha;subst ha
       simp only[Option.bind_some,hx,Option.map_some]at Pk
       have hxm:=List.mem_of_getElem? hx
       have hxk:ren I x.key=x.key:=by
        unfold F0 at hq
        split at hq
        ·rename_i hc;exact(Cg I _ (List.all_eq_true.1 hc.2.1 x hxm)).1
        ·simp at hq
       refine Ld.mapped (es:=es) k hlo hat hbase hheap (fun e he=>?_) (by simp[undef,In,C5]) (nx:=.skip) ?_ (.inr ⟨rfl,rfl⟩)
       ·rcases List.mem_or_eq_of_mem_set he with he|he
        ·exact ie e he
        ·subst he;exact⟨i2,i3⟩
       ·rw[FG,e1,e2,e3,<-LQ hx,fq]
        simp[Instr.mapUpdate,run_underlying ht,EK hheap,hck,Pk,FA hheap,hx,Dl,hxk,Instr.keyThatStays,YQ]
      ·simp at ha
   ·simp at ha
  ·simp at ha
 ·simp at ha

theorem ay (hρ:Ev I ts ρ) (ho:o.op= .call ⟨.builtin .delete, #[x,y], #[t,u]⟩) (ht:P.underlying t=some (.map kt e)) (hx:Bw x=some x') (hy:Bw y=some y') (k:Rel I h w)
 (ha:Jv P lo kt (ev ts y') h (ev ts x')=some h'):Ld P I ρ o lo Br h' (.tuple #[]) w:=by
 obtain⟨e1,i1⟩:=hρ x x' hx
 obtain⟨e2,i2⟩:=hρ y y' hy
 unfold Jv at ha
 split at ha
 ·rename_i r hr
  rw[hr]at e1 i1
  simp only[ren,In]at e1 i1
  split at ha
  ·rename_i hlo
   split at ha
   ·rename_i es c hg
    simp only[Option.map_eq_some_iff]at ha
    obtain⟨q,hq,ha⟩:=ha
    obtain⟨b0,hb0⟩:=i1
    obtain⟨ie,b,hat,hbase,hheap⟩:=k.rows _ _ hg ⟨_,_,hb0⟩
    have hblk:I.blk r=b:=by simp[AZ.blk,hat]
    rw[hblk]at e1
    obtain⟨tT,hck,Pk⟩:=Ks (I:=I) hq w
    have fq:=(Cg I _ tT).1
    have hemp:(⟨es.map (Dl I)⟩:Array MapEntry).isEmpty=es.isEmpty:=by cases es<;>simp
    have FG:(execOp ρ o).run P w=((Builtin.delete_ #[t,u] o.type #[ρ x,ρ y]).run P w).andThen fun a w'=>.ok (.value a) w':=by
     simp[execOp,ho,resolve,invoke,builtin]
    have hsame:putObj w b (.map ⟨es.map (Dl I)⟩ c)=w:=by
     cases w with
     | mk=>
       simp only[putObj]at hheap⊢
       congr 1
       apply Array.ext_getElem?
       intro j
       by_cases hj:b=j
       ·subst hj
        obtain⟨hl, -⟩:=Array.getElem?_eq_some_iff.1 hheap
        rw[hheap,Array.getElem?_setIfInBounds_self_of_lt hl]
       ·rw[Array.getElem?_setIfInBounds_ne hj]
    cases q with
    | none=>
      simp only at ha;subst ha
      simp only[Option.bind_none]at Pk
      refine⟨I,w,_,⟨CK.refl I w,fun _ d=>.inl d,fun _ _ _ _ e=>e⟩,k,by simp[In,C5],Ext.refl I lo w,?_,.inl rfl⟩
      rw[FG,e1,e2,fq]
      simp[Builtin.delete_,run_underlying ht,EK hheap,hemp,hck,Pk,FA hheap,hsame,ren,AX]
    | some i=>
      simp only at ha;subst ha
      cases hxx:es[i]? with
      | none=>
        simp only[Option.bind_some,hxx,Option.map_none]at Pk
        have her:es.eraseIdx i=es:=List.eraseIdx_of_length_le (List.getElem?_eq_none_iff.1 hxx)
        rw[her]
        refine Ld.mapped (es:=es) k hlo hat hbase hheap ie (by simp[In,C5]) (nx:=.value (ren I (.tuple #[]))) ?_ (.inl rfl)
        rw[FG,e1,e2,fq]
        simp[Builtin.delete_,run_underlying ht,EK hheap,hemp,hck,Pk,FA hheap,ren,AX]
      |some x=>
      simp only[Option.bind_some,hxx,Option.map_some]at Pk
      obtain⟨hl, -⟩:=List.getElem?_eq_some_iff.1 hxx
      refine Ld.mapped (es:=es) k hlo hat hbase hheap (fun e he=>ie e (List.mem_of_mem_eraseIdx he)) (by simp[In,C5]) (nx:=.value (ren I (.tuple #[]))) ?_ (.inl rfl)
      rw[FG,e1,e2,fq]
      have her:(⟨es.map (Dl I)⟩:Array MapEntry).eraseIdxIfInBounds i=⟨(es.eraseIdx i).map (Dl I)⟩:=by
       apply Array.ext'
       rw[Array.toList_eraseIdxIfInBounds,map_eraseIdx]
      simp[Builtin.delete_,run_underlying ht,EK hheap,hemp,hck,Pk,FA hheap,map_eraseIdx,ren,AX]
   ·simp at ha
  ·simp at ha
 ·simp at ha

end
end AE

/- Maps: a range over one begins, an entry is read, an entry is laid and stored. -/
namespace AE
open Go Go.RowKit

section
variable {P:Program}{I:AZ}{ts:Ts}{ρ:Operand->Value}
variable {o:Oper}{t kt e u:TypeId}{m kk vv x y:Operand}{m' k' v' x' y' s':BH}{lo Br:Nat}{h h':H}{w:World}{v:Value}

theorem oS (es:List MapEntry) (s:Nat):(es.map (Dl I)).find? (fun e=>e.born==s)=(es.find? (fun e=>e.born==s)).map (Dl I):=by
 induction es with
 |nil=>rfl
 | cons a l ih=>
   simp only[List.map_cons,List.find?_cons]
   have:(Dl I a).born=a.born:=rfl
   rw[this]
   cases a.born==s<;>simp[ih]

theorem aj (hρ:Ev I ts ρ) (ho:o.op= .range t x) (ht:P.underlying t=some (.map kt e)) (hx:Bw x=some x') (k:Rel I h w) (Jt:¬I.dom Br) (hnx:Br<h.next) (hlo:lo<=Br)
 (ha:Kw Br h (ev ts x')=some (v,h')):Ld P I ρ o lo Br h' v w:=by
 obtain⟨e1,i1⟩:=hρ x x' hx
 unfold Kw at ha
 split at ha
 ·rename_i r hr
  rw[hr]at e1 i1
  simp only[ren,In]at e1 i1
  split at ha
  ·rename_i es c hg
   simp only[Option.some.injEq,Prod.mk.injEq]at ha
   obtain⟨rfl,rfl⟩:=ha
   obtain⟨b0,hb0⟩:=i1
   obtain⟨ie,b,hat,hbase,hheap⟩:=k.rows _ _ hg ⟨_,_,hb0⟩
   have hblk:I.blk r=b:=by simp[AZ.blk,hat]
   rw[hblk]at e1
   have hrun:=run_range_map (P:=P) w t kt e b _ c ht hheap
   have hne:r≠Br:=by rintro rfl;exact Jt ⟨_,_,hb0⟩
   refine⟨_,_,_,⟨CK.plus (FJ Jt none) (.inl (Nat.le_refl _)) (c:=0),fun _ d=>AZ.C8 d,AZ.GF hlo⟩,k.new Jt hnx none 0 _ ⟨w.heap.size,b,AZ.BD ..,k.base,?_,heap_alloc w _⟩,?_,Ext.alloc I lo w _,?_,.inl rfl⟩
   ·rw[AZ.BA (fun q=>hne q.1)];exact hat
   ·simp only[In,Nm];exact⟨_,AZ.BD ..⟩
   ·simp only[execOp,ho,e1,Sem.run_bind,hrun,Result.andThen,ren,Ew,AZ.BD]
    rfl
  ·simp at ha
 ·simp at ha

theorem iD (hρ:Ev I ts ρ) (ho:o.op= .entry x) (hx:Bw x=some x') (k:Rel I h w) (ha:RD h (ev ts x')=some v):In I v/\(execOp ρ o).run P w= .ok (.value (ren I v)) w:=by
 obtain⟨e1,i1⟩:=hρ x x' hx
 unfold RD at ha
 split at ha
 ·rename_i r hr
  rw[hr]at e1 i1
  simp only[Option.bind_eq_some_iff]at ha
  obtain⟨row,hg,ha⟩:=ha
  unfold fJ at ha
  split at ha
  ·rename_i m since seen c0
   simp only[Option.bind_eq_some_iff]at ha
   obtain⟨s,hs,ha⟩:=ha
   split at ha
   ·rename_i es c hgm
    split at ha
    ·rename_i hcc
     subst hcc
     simp only[fH,Option.map_eq_some_iff]at ha
     obtain⟨en,hen,rfl⟩:=ha
     simp only[In,Nm]at i1
     obtain⟨p0,hp0⟩:=i1
     obtain⟨b,bm,hat,hbase,jz,hheap⟩:=k.rows _ _ hg ⟨_,_,hp0⟩
     obtain⟨ie,bm',S6,yN,bK⟩:=k.rows _ _ hgm ⟨_,_,jz⟩
     rw[jz]at S6;simp at S6;subst S6
     have hmem:=List.mem_of_find?_eq_some hen
     have hin:=ie en hmem
     have hf:(⟨es.map (Dl I)⟩:Array MapEntry).find? (fun e=>e.born==s)=some (Dl I en):=by
      rw[<-Array.find?_toList]
      show(es.map (Dl I)).find? _=_
      rw[oS,hen];rfl
     have hback:(⟨seen⟩:Array Nat).back? =some s:=by
      rw[Array.back?_eq_getElem?,<-hs,List.getLast?_eq_getElem?]
      simp
     refine⟨by simp[In,C5,hin.1,hin.2],?_⟩
     simp only[ren,Ew,hat]at e1
     simp only[execOp,ho,e1,Instr.entry,getObj,Sem.run_bind,Sem.run,hheap,bK,Result.andThen,hback,bne_self_eq_false,Bool.false_eq_true,if_false,hf]
     simp[ren,AX,Dl]
    ·simp at ha
   ·simp at ha
  ·simp at ha
 ·simp at ha

mutual
theorem cC:∀{a b:Value},wj a b=true->a=b
 | .int k a,.int k' b,h=>by
   simp only[wj,decide_eq_true_eq]at h
   obtain⟨rfl,rfl⟩:=h
   rfl
 | .bool a,.bool b,h=>by
   simp only[wj,decide_eq_true_eq]at h
   rw[h]
 | .string a,.string b,h=>by
   simp only[wj,Bool.and_eq_true,decide_eq_true_eq]at h
   rw[h.1]
 | .agg ⟨a⟩,.agg ⟨b⟩,h=>by
   simp only[wj]at h
   rw[o5 h]
theorem o5:∀{a b:List Value},eqL a b=true->a=b
 |[],[],_=>rfl
 | a::l,b::m,h=>by
   simp only[eqL,Bool.and_eq_true]at h
   rw[cC h.1,o5 h.2]
end

theorem XR {P:Program}{I:AZ}{w:World}{F:Value->ByteArray->Sem (ForInStep ByteArray)}(hF:∀n r,F (.int .u8 n) r=pure (.yield (r.push (UInt8.ofNat n.toNat)))):∀{l:List Value} {s t:ByteArray},iu l s=some t->(forIn (AX I l) s F).run P w= .ok t w
 |[],s,t,h=>by simp[iu]at h;subst h;simp[AX]
 | v::l,s,t,h=>by
   unfold iu at h
   split at h
   ·rename_i e;cases e
   ·rename_i n l' e
    simp only[List.cons.injEq]at e
    obtain⟨rfl,rfl⟩:=e
    have:=XR (P:=P) (I:=I) (w:=w) hF h
    simp only[AX,ren,List.forIn_cons,hF,pure_bind]
    exact this
   ·cases h
theorem rP {t u:TypeId}(hρ:Ev I ts ρ) (ho:o.op= .convert t u x) (ht:P.underlying t=some (.slice e)) (hu:P.underlying u=some .string) (he:P.underlying e=some (.int .u8)) (hx:Bw x=some x')
 (k:∀a len cap row,ev ts x'= .slice (some a) len cap->cap<far->h.get a.block=some row->Ci I a.block w row) (ha:kW h (ev ts x')=some v):In I v/\(execOp ρ o).run P w= .ok (.value (ren I v)) w:=by
 obtain⟨e1,i1⟩:=hρ x x' hx
 unfold kW at ha
 split at ha
 ·rename_i a n c hr
  simp only[Option.bind_eq_some_iff,Option.map_eq_some_iff]at ha
  obtain⟨l,hl,b,hb,rfl⟩:=ha
  rw[hr]at e1 i1 k
  obtain⟨hc, -, -⟩:=Em (P:=P) k i1 hl
  refine⟨by simp[In],?_⟩
  cases a with
  | none=>
    simp only[Dv,Option.some.injEq]at hl
    subst hl
    simp[iu]at hb
    subst hb
    simp[execOp,ho,e1,convert,run_underlying ht,run_underlying hu,run_underlying he,Conv.bytesToString,ren]
  | some a=>
    have hsl:∃b c',ren I (.slice (some a) n c)= .slice (some b) n c':=by
     by_cases hf:far<=c
     ·exact⟨_,_,Et hf⟩
     ·have hf:=Nat.not_le.1 hf
      rw[Dp hf]at i1
      obtain⟨p,hp⟩:=i1.1
      exact⟨⟨p.1,p.2+a.off,none⟩,CH I a c,by rw[CQ hf];simp only[Ew,hp]⟩
    obtain⟨b',c',hsl⟩:=hsl
    rw[hsl]at e1 hc
    simp only[Builtin.firstCells,Nat.mul_one]at hc
    simp[execOp,ho,e1,convert,run_underlying ht,run_underlying hu,run_underlying he,Conv.bytesToString,hc,ren]
    rw[XR (fun n r=>rfl) hb]
    rfl
 ·simp at ha

theorem ag (hρ:Ev I ts ρ) (ho:o.op= .range t x) (ht:P.underlying t=some .string) (hx:Bw x=some x') (k:Rel I h w) (Jt:¬I.dom Br) (hnx:Br<h.next) (hlo:lo<=Br)
 (ha:QW Br h (ev ts x')=some (v,h')):Ld P I ρ o lo Br h' v w:=by
 obtain⟨e1,i1⟩:=hρ x x' hx
 unfold QW at ha
 split at ha
 ·rename_i s hr
  rw[hr]at e1
  simp only[ren]at e1
  simp only[Option.some.injEq,Prod.mk.injEq]at ha
  obtain⟨rfl,rfl⟩:=ha
  refine⟨_,_,_,⟨CK.plus (FJ Jt none) (.inl (Nat.le_refl _)) (c:=0),fun _ d=>AZ.C8 d,AZ.GF hlo⟩,k.new Jt hnx none 0 (.stringIter s 0) ⟨w.heap.size,AZ.BD ..,k.base,heap_alloc w _⟩,?_,Ext.alloc I lo w _,?_,.inl rfl⟩
  ·simp only[In,Nm];exact⟨_,AZ.BD ..⟩
  ·simp[execOp,ho,e1,Instr.range,run_underlying ht,newObj,Sem.run,ren,Ew,AZ.BD]
 ·simp at ha

theorem iB (hρ:Ev I ts ρ) (ho:o.op= .next x true) (hx:Bw x=some x') (k:Rel I h w)
 (ha:Pl lo h (ev ts x')=some (v,h')):Ld P I ρ o lo Br h' v w:=by
 obtain⟨e1,i1⟩:=hρ x x' hx
 unfold Pl at ha
 split at ha
 ·rename_i r hr
  rw[hr]at e1 i1
  simp only[ren,In,Nm]at e1 i1
  split at ha
  ·rename_i hlo
   split at ha
   ·rename_i s pos hg
    obtain⟨b0,hb0⟩:=i1
    obtain⟨b,hat,hbase,hheap⟩:=k.rows _ _ hg ⟨_,_,hb0⟩
    have e2:ρ x= .pointer (some ⟨b,0,none⟩):=by rw[e1];simp[Ew,hat]
    have hget:(getObj b).run P w= .ok (.stringIter s pos) w:=by simp[getObj,Sem.run,hheap]
    have hset:∀ob,(setObj b ob).run P w= .ok () (putObj w b ob):=fun ob=>by simp[setObj,Sem.run,hheap,putObj]
    split at ha
    ·rename_i hp
     simp only[Option.some.injEq,Prod.mk.injEq]at ha
     obtain⟨rfl,rfl⟩:=ha
     refine⟨I,_,_,⟨CK.refl I w,fun _ d=>.inl d,fun _ _ _ _ e=>e⟩,k.store hbase ⟨none,_,hat⟩ (But.putObj w b (.stringIter s (pos+(Utf8.decode s pos).2))) ⟨b,hat,hbase,by have hb:=(Array.getElem?_eq_some_iff.1 hheap).1;simp[AE.putObj,Array.getElem?_setIfInBounds,hb]⟩,by simp[In,C5],(But.putObj w b _).ext hlo hat hbase,?_,.inl rfl⟩
     simp[execOp,ho,Instr.next,e2,hget,hp,hset,ren,AX,goInt]
    ·rename_i hp
     simp only[Option.some.injEq,Prod.mk.injEq]at ha
     obtain⟨rfl,rfl⟩:=ha
     refine⟨I,w,_,⟨CK.refl I w,fun _ d=>.inl d,fun _ _ _ _ e=>e⟩,k,by simp[In,C5],Ext.refl I lo w,?_,.inl rfl⟩
     simp[execOp,ho,Instr.next,e2,hget,hp,ren,AX]
   ·simp at ha
  ·simp at ha
 ·simp at ha

theorem ak (hρ:Ev I ts ρ) (ho:o.op= .mapEntry t m kk) (ht:P.underlying t=some (.map kt e)) {z:Value}(hz:Fx P e=some z) (hm:Bw m=some m') (hk:Bw kk=some k') (k:Rel I h w)
 (ha:Kx P lo kt z (ev ts k') h (ev ts m')=some (v,h')):Ld P I ρ o lo Br h' v w:=by
 obtain⟨e1,i1⟩:=hρ m m' hm
 obtain⟨e2,i2⟩:=hρ kk k' hk
 obtain⟨hzr,fm⟩:=CO hz w
 obtain⟨ez,iz⟩:=Cg I z fm
 unfold Kx at ha
 split at ha
 ·rename_i r hr
  rw[hr]at e1 i1
  simp only[ren,In]at e1 i1
  split at ha
  ·rename_i hlo
   split at ha
   ·rename_i es c hg
    simp only[Option.bind_eq_some_iff]at ha
    obtain⟨q,hq,ha⟩:=ha
    obtain⟨b0,hb0⟩:=i1
    obtain⟨ie,b,hat,hbase,hheap⟩:=k.rows _ _ hg ⟨_,_,hb0⟩
    have hblk:I.blk r=b:=by simp[AZ.blk,hat]
    rw[hblk]at e1
    obtain⟨tT,hck,Pk⟩:=Ks (I:=I) hq w
    have fq:=(Cg I _ tT).1
    have FG:(execOp ρ o).run P w=((Instr.mapEntry t (ρ m) (ρ kk)).run P w).andThen fun a w'=>.ok (.value a) w':=by
     simp[execOp,ho]
    cases q with
    | none=>
      simp only[OA]at ha
      split at ha
      case isFalse=>simp at ha
      simp only[Option.some.injEq,Prod.mk.injEq]at ha
      obtain⟨rfl,rfl⟩:=ha
      simp only[Option.bind_none]at Pk
      refine Ld.mapped (es:=es) k hlo hat hbase hheap (fun e he=>?_) (by simp[In,C5,iz]) (nx:=_) ?_ (.inl rfl)
      ·rcases List.mem_append.1 he with he|he
       ·exact ie e he
       ·simp at he;subst he;exact⟨i2,iz⟩
      ·rw[FG,e1,e2,fq]
       simp[Instr.mapEntry,run_underlying ht,EK hheap,hck,Pk,FA hheap,Dl,fq,hzr,ez,ren,AX,goInt]
    | some i=>
      simp only[OA,Option.bind_eq_some_iff]at ha
      obtain⟨x,hx,ha⟩:=ha
      split at ha
      ·rename_i YQ
       simp only[Option.some.injEq,Prod.mk.injEq]at ha
       obtain⟨rfl,rfl⟩:=ha
       simp only[Option.bind_some,hx,Option.map_some]at Pk
       have hxm:=List.mem_of_getElem? hx
       have hxk:ren I x.key=x.key:=by
        unfold F0 at hq
        split at hq
        ·rename_i hc;exact(Cg I _ (List.all_eq_true.1 hc.2.1 x hxm)).1
        ·simp at hq
       have hix:=ie x hxm
       rw[Bool.and_eq_true]at YQ
       have hkey:=cC YQ.1
       refine Ld.mapped (es:=es) k hlo hat hbase hheap ie (by simp[In,C5,hix.2]) (nx:=_) ?_ (.inl rfl)
       have hmod:(⟨es.map (Dl I)⟩:Array MapEntry).modify i (fun e=>{e with key:=ev ts k'})=⟨es.map (Dl I)⟩:=by
        apply Array.ext'
        rw[Array.toList_modify]
        apply List.ext_getElem?
        intro j
        simp only[List.getElem?_modify,List.getElem?_map]
        by_cases hij:i=j
        ·subst hij;simp[hx,Dl,<-hkey,hxk]
        ·simp[hij]
       rw[FG,e1,e2,fq]
       simp[Instr.mapEntry,run_underlying ht,EK hheap,hck,Pk,FA hheap,hx,Dl,hxk,Instr.keyThatStays,YQ.2,ren,AX,goInt]
       simpa[Dl]using congrArg (fun q=>putObj w b (Obj.map q c)) hmod
      ·simp at ha
   ·simp at ha
  ·simp at ha
 ·simp at ha

theorem iC (hρ:Ev I ts ρ) {s:Operand}(ho:o.op= .entryStore t m s vv) (hm:Bw m=some m') (hs:Bw s=some s') (hv:Bw vv=some v') (k:Rel I h w)
 (ha:RB lo (ev ts s') (ev ts v') h (ev ts m')=some h'):Ld P I ρ o lo Br h' undef w:=by
 obtain⟨e1,i1⟩:=hρ m m' hm
 obtain⟨e2,i2⟩:=hρ s s' hs
 obtain⟨e3,i3⟩:=hρ vv v' hv
 unfold RB at ha
 split at ha
 ·rename_i r hr
  rw[hr]at e1 i1
  simp only[ren,In]at e1 i1
  split at ha
  ·rename_i hlo
   split at ha
   ·rename_i es c n hg hsn
    rw[hsn]at e2
    obtain⟨b0,hb0⟩:=i1
    obtain⟨ie,b,hat,hbase,hheap⟩:=k.rows _ _ hg ⟨_,_,hb0⟩
    have hblk:I.blk r=b:=by simp[AZ.blk,hat]
    rw[hblk]at e1
    have FG:(execOp ρ o).run P w=((Instr.entryStore t (ρ m) (ρ s) (ρ vv)).run P w).andThen fun _ w'=>.ok .skip w':=by
     simp[execOp,ho]
    have hidx:(⟨es.map (Dl I)⟩:Array MapEntry).findIdx? (fun e=>(e.born:Int)==n)=es.findIdx? (fun e=>(e.born:Int)==n):=by
     rw[List.findIdx?_toArray,List.findIdx?_map]
     rfl
    unfold Y5 at ha
    split at ha
    ·rename_i i hi
     simp only[Option.map_eq_some_iff]at ha
     obtain⟨x,hx,rfl⟩:=ha
     have hxm:=List.mem_of_getElem? hx
     refine Ld.mapped (es:=es) k hlo hat hbase hheap (fun e he=>?_) (by simp[undef,In,C5]) (nx:=.skip) ?_ (.inr ⟨rfl,rfl⟩)
     ·rcases List.mem_or_eq_of_mem_set he with he|he
      ·exact ie e he
      ·subst he;exact⟨(ie x hxm).1,i3⟩
     ·have hmod:(⟨es.map (Dl I)⟩:Array MapEntry).modify i (fun e=>{e with val:=ren I (ev ts v')})=⟨(es.set i ⟨x.key,ev ts v',x.born⟩).map (Dl I)⟩:=by
       rw[<-LQ hx]
       apply Array.ext'
       rw[Array.toList_modify,Array.toList_modify]
       apply List.ext_getElem?
       intro j
       simp only[List.getElem?_modify,List.getElem?_map]
       by_cases hij:i=j
       ·subst hij;simp[hx,Dl]
       ·simp[hij]
      rw[FG,e1,e2,e3]
      simp[ren,Instr.entryStore,EK hheap,asInt,asIntOf,hidx,hi,FA hheap]
      simpa[Dl]using congrArg (fun q=>putObj w b (Obj.map q c)) hmod
    ·simp at ha
   ·simp at ha
  ·simp at ha
 ·simp at ha

end
end AE

/- A look into a map ahead of, or behind, an entry's being laid for the same key: the same. -/
namespace AE
open Go Go.RowKit

section
variable {P:Program}

theorem qg (a b:List MapEntry):bare (a++b)=bare a++bare b:=by simp[bare]

theorem VZ {kd:TypeDesc}{k:Value}(hs:dM k=true):Instr.sameNow kd k k≠some false:=by
 cases k<;>cases kd<;>simp[Instr.sameNow]
 exact hs
theorem V0 {kd:TypeDesc}{k k':Value}{b:Bool}(h:Instr.sameNow kd k k'=some b):Instr.sameNow kd k k≠none:=by
 cases k<;>cases kd<;>simp[Instr.sameNow]at h⊢

theorem Qy (kd:TypeDesc) (k:Value) (e:MapEntry):∀(es:List MapEntry) (i:Nat),
 (Instr.findNow kd k es i=none->Instr.findNow kd k (es++[e]) i=none)/\
 (Instr.findNow kd k es i=some none->Instr.findNow kd k (es++[e]) i=Instr.findNow kd k [e] (i+es.length))
 |[],i=>⟨by simp[Instr.findNow],fun _=>rfl⟩
 | a ::es,i=>by
   obtain⟨h1,h2⟩:=Qy kd k e es (i+1)
   simp only[List.cons_append,Instr.findNow]
   cases Instr.sameNow kd k a.key with
   |none=>simp
   | some b=>
     cases b with
     |true=>simp
     | false=>
       refine⟨h1,fun h=>?_⟩
       rw[h2 h,List.length_cons,show i+1+es.length=i+(es.length+1) by omega]
       simp[Instr.findNow]

theorem Ma (kt:TypeId) (k:Value) (e:MapEntry):∀(es:List MapEntry) (i:Nat),Bl P (Instr.findAsking kt k es i)=some none->
 Bl P (Instr.findAsking kt k (es++[e]) i)=Bl P (Instr.findAsking kt k [e] (i+es.length))
 |[],i,_=>rfl
 | a ::es,i,h=>by
   simp only[List.cons_append,Instr.findAsking,BB,Option.bind_eq_some_iff]at h⊢
   obtain⟨b,hb,h⟩:=h
   rw[hb]
   cases b with
   |true=>simp[Bl,Pure.pure]at h
   | false=>
     simp only[Option.bind_some,Bool.false_eq_true,if_false]at h⊢
     rw[Ma kt k e es (i+1) h,List.length_cons,show i+1+es.length=i+(es.length+1) by omega]
     simp[Instr.findAsking,BB]

theorem Y3 {kt:TypeId}{k u:Value}{c:Nat}{es:List MapEntry}(hn:Bl P (Instr.findKey kt k es)=some none) (hs:VY P kt k=true):∃v,Bl P (Instr.findKey kt k (es++[⟨k,u,c⟩]))=some (some (es.length,v)):=by
 unfold VY at hs
 rw[Bool.and_eq_true]at hs
 obtain⟨hs1,hs2⟩:=hs
 have heq:Bl P (Op.equal kt k k)=some true:=by
  split at hs2
  ·assumption
  ·simp at hs2
 have Aes:∀i,Bl P (Instr.findAsking kt k [⟨k,u,c⟩] i)=some (some (i,u)):=fun i=>by
  simp only[Instr.findAsking,BB,heq,Option.bind_some,if_true]
  rfl
 simp only[Instr.findKey,BB,Option.bind_eq_some_iff]at hn⊢
 obtain⟨kd,hkd,hn⟩:=hn
 obtain⟨a1,a2⟩:=Qy kd k ⟨k,u,c⟩ es 0
 cases hf:Instr.findNow kd k es 0 with
 | none=>
   rw[hf]at hn
   refine⟨u,kd,hkd,?_⟩
   rw[a1 hf]
   simp only at hn⊢
   rw[Ma kt k _ es 0 hn,Aes]
   simp
 | some q=>
   rw[hf]at hn
   simp only[Bl,Pure.pure,Option.some.injEq]at hn
   subst hn
   rw[Nat.zero_add]at a2
   cases hsn:Instr.sameNow kd k k with
   | none=>
     cases es with
     | nil=>
       refine⟨u,kd,hkd,?_⟩
       simp only[List.nil_append,Instr.findNow,hsn,Aes,List.length_nil]
     | cons e es=>
       exfalso
       simp only[Instr.findNow]at hf
       split at hf
       ·simp at hf
       ·rename_i h1;exact V0 h1 hsn
       ·simp at hf
   | some b=>
     cases b with
     | true=>
       refine⟨u,kd,hkd,?_⟩
       rw[a2 hf]
       simp only[Instr.findNow,hsn]
       rfl
     |false=>exact absurd hsn (VZ hs1)

theorem kE {kt:TypeId}{k v:Value}{c:Nat}{es:List MapEntry}{b:Bool}(hn:F0 P b kt k es=some none) (hf:(Bl P (Instr.checkKey false 10000 kt k)).isSome=true) (hs:VY P kt k=true):
 F0 P false kt k (es++[⟨k,v,c⟩])=some (some es.length):=by
 unfold F0 at hn⊢
 split at hn
 ·rename_i hc
  obtain⟨h1,h2, -⟩:=hc
  simp only[Option.map_eq_some_iff]at hn
  obtain⟨q,hq,hn⟩:=hn
  have:q=none:=by cases q<;>simp at hn⊢
  subst this
  obtain⟨u,hu⟩:=Y3 (u:=undef) (c:=c) hq hs
  have hfl:Je (es++[⟨k,v,c⟩])=true:=by
   unfold Je at h2⊢
   rw[List.all_append,h2]
   simp[h1]
  rw[if_pos ⟨h1,hfl,hf⟩,qg]
  show(Bl P (Instr.findKey kt k (bare es++[⟨k,undef,c⟩]))).map _=_
  rw[hu]
  simp[bare]
 ·simp at hn
theorem cX {kt:TypeId}{k:Value}{es:List MapEntry}{b b':Bool}{q q':Option Nat}(h:F0 P b kt k es=some q) (h':F0 P b' kt k es=some q'):q=q':=by
 unfold F0 at h h'
 split at h
 ·split at h'
  ·rw[h]at h';simpa using h'
  ·simp at h'
 ·simp at h

theorem mS {kt:TypeId}{z k v v':Value}{lo r:Nat}{h g:H}{es:List MapEntry}{c:Nat}(hg:h.get r=some (.map es c)) (tQ:DV P kt z false k h (.map (some r))=some v) (hme:Kx P lo kt z k h (.map (some r))=some (v',g)):
 ∃row,g=h.put r row/\∀f:H,f.get r=some row->DV P kt z false k f (.map (some r))=some v:=by
 simp only[DV,hg,Option.bind_eq_some_iff]at tQ
 obtain⟨q,hq,tQ⟩:=tQ
 simp only[Kx]at hme
 split at hme
 ·simp only[hg,Option.bind_eq_some_iff]at hme
  obtain⟨q',hq',hme⟩:=hme
  obtain rfl:=cX hq hq'
  cases q with
  | none=>
    simp only[OA]at hme
    split at hme
    ·rename_i hs
     simp only[Option.some.injEq,Prod.mk.injEq]at hme
     refine⟨_,hme.2.symm,fun f hf=>?_⟩
     have hck:(Bl P (Instr.checkKey false 10000 kt k)).isSome=true:=by
      unfold F0 at hq'
      split at hq'
      ·rename_i hc;exact hc.2.2
      ·simp at hq'
     have:=kE (v:=z) (c:=c) hq hck hs
     simp only[DV,hf]
     rw[show(es++[(⟨k,z,c⟩:MapEntry)]).isEmpty=false by simp,this]
     simp only[Na,Bool.false_eq_true,if_false,Option.some.injEq]at tQ
     subst tQ
     simp[Na]
    ·simp at hme
  | some i=>
    simp only[OA,Option.bind_eq_some_iff]at hme
    obtain⟨x,hx,hme⟩:=hme
    split at hme
    ·simp only[Option.some.injEq,Prod.mk.injEq]at hme
     exact⟨_,hme.2.symm,fun f hf=>by simp only[DV,hf,hq,Option.bind_some,tQ]⟩
    ·simp at hme
 ·simp at hme

end
end AE

/- One operation, whatever it is: what the evaluator says of it is what the program does. -/
namespace AE
open Go Go.RowKit

section
variable {P:Program}{I:AZ}{ts:Ts}{ρ:Operand->Value}

def B9.known:B9->Bool:=fun _=>true

theorem Ld.aX {o:Oper}{lo Br:Nat}{h:H}{v:Value}{w:World}(k:Rel I h w) (h1:In I v) (h2:(execOp ρ o).run P w= .ok (.value (ren I v)) w):Ld P I ρ o lo Br h v w:=
 ⟨I,w,_,⟨CK.refl I w,fun _ d=>.inl d,fun _ _ _ _ e=>e⟩,k,h1,Ext.refl I lo w,h2,.inl rfl⟩

theorem Ld.fresh {o:Oper}{lo Br:Nat}{h h':H}{v:Value}{w:World}(k:Rel I h w) (hlo:lo<=Br) (Jt:¬I.dom Br) (hnx:Br<h.next) (hf:TM P I ρ o Br h h' v):Ld P I ρ o lo Br h' v w:=by
 obtain⟨row,rfl,hf⟩:=hf
 obtain⟨ob,hrun,hin,hrow⟩:=hf w k.base Jt
 exact⟨_,_,_,⟨CK.plus (FJ Jt _) (.inl (Nat.le_refl _)),fun _ d=>AZ.C8 d,AZ.GF hlo⟩,k.new Jt hnx none 0 ob hrow,hin,Ext.alloc I lo w ob,hrun,.inl rfl⟩

theorem Ld.stored {o:Oper}{lo Br b:Nat}{h:H}{r:Nat}{row:BQ}{w w':World}(k:Rel I h w) (hlo:lo<=r) (hrow:Ci I r w' row) (De:But b w w') (hbase:I.base<=b) (hat:∃s d,I.at_ r s=some (b,d))
 (hrun:(execOp ρ o).run P w= .ok .skip w'):Ld P I ρ o lo Br (h.put r row) undef w:=by
 obtain⟨s,d0,hs⟩:=hat
 exact⟨I,w',_,⟨CK.refl I w,fun _ d=>.inl d,fun _ _ _ _ e=>e⟩,k.store hbase ⟨s,_,hs⟩ De hrow,by simp[undef,In,C5],De.ext hlo hs hbase,hrun,.inr ⟨rfl,rfl⟩⟩

set_option maxHeartbeats 1600000 in
theorem ah (hρ:Ev I ts ρ) {o:Oper}{ao:B9}{lo Br:Nat}{h h':H}{v:Value}{w:World}(hc:comp P o=some (.op ao)) (hkn:ao.known=true) (k:Rel I h w) (Jt:¬I.dom Br) (hnx:Br<h.next) (hlo:lo<=Br)
 (ha:C6 P lo Br ts h ao=some (v,h')):Ld P I ρ o lo Br h' v w:=by
 by_cases hl:ao.light=true
 ·by_cases hf:ao.fresh=true
  ·exact Ld.fresh k hlo Jt hnx (ky hρ hc hl hf ha)
  ·obtain⟨rfl,hi,hrun⟩:=kx hρ hc hl (by simpa using hf) ha
   exact Ld.aX k hi (hrun w)
 ·have hc0:=hc
  have hc:=W6 hc (by rintro rfl;simp[C6]at ha)
  unfold O4 at hc
  have nk:∀(x:Operand) (x':BH),Bw x=some x'->∀a row,ev ts x'= .pointer (some a)->h.get a.block=some row->Ci I a.block w row:=fun x x' hx a row hp hg=>by
   have i2:=(hρ x x' hx).2
   rw[hp]at i2
   exact k.rows _ _ hg (BK (by simpa only[In]using i2))
  cases ho:o.op<;>rw[ho]at hc<;>simp only[Option.bind_eq_some_iff,Option.map_eq_some_iff,reduceCtorEq]at hc
  case load t a=>
   obtain⟨a',hx,hc⟩:=hc
   split at hc
   ·rename_i ht
    simp only[Option.map_eq_some_iff]at hc
    obtain⟨n,hn,hc⟩:=hc
    simp at hc;subst hc
    obtain⟨hv,rfl⟩:=Bi ha
    obtain⟨r1,r2⟩:=UE hρ ho ht hn hx hv (nk a a' hx)
    exact Ld.aX k r1 r2
   ·rename_i ht
    simp at hc;subst hc
    obtain⟨hv,rfl⟩:=Bi ha
    obtain⟨r1,r2⟩:=UF hρ ho ht hx hv (nk a a' hx)
    exact Ld.aX k r1 r2
   ·simp at hc
  case store t a x=>
   obtain⟨n,hn,a',hx,x',hy,hc⟩:=hc
   simp at hc;subst hc
   obtain⟨aa,b,row',w',e1,e2,rfl,rfl,e5,e6,e7,e8,e9⟩:=V2 hρ ho hn hx hy ha (nk a a' hx)
   exact Ld.stored k e2 e5 e6 e7 e8 e9
  case lookup t m kk ok=>
   split at hc
   ·rename_i kt e ht
    simp only[Option.bind_eq_some_iff,Option.map_eq_some_iff]at hc
    obtain⟨z,hz,m',hm,k',hk,hc⟩:=hc
    simp at hc;subst hc
    obtain⟨hv,rfl⟩:=Bi ha
    obtain⟨r1,r2⟩:=au hρ ho ht hz hm hk k hv
    exact Ld.aX k r1 r2
   ·simp at hc
  case mapUpdate t m kk vv=>
   split at hc
   ·rename_i kt e ht
    simp only[Option.bind_eq_some_iff,Option.map_eq_some_iff]at hc
    obtain⟨m',hm,k',hk,v',hv,hc⟩:=hc
    simp at hc;subst hc
    simp only[C6,Option.map_eq_some_iff,Prod.mk.injEq]at ha
    obtain⟨h1,ha,rfl,rfl⟩:=ha
    exact UB hρ (.inl ho) ht hm hk hv k ha
   ·simp at hc
  case insert t m kk vv=>
   split at hc
   ·rename_i kt e ht
    simp only[Option.bind_eq_some_iff,Option.map_eq_some_iff]at hc
    obtain⟨m',hm,k',hk,v',hv,hc⟩:=hc
    simp at hc;subst hc
    simp only[C6,Option.map_eq_some_iff,Prod.mk.injEq]at ha
    obtain⟨h1,ha,rfl,rfl⟩:=ha
    exact UB hρ (.inr ho) ht hm hk hv k ha
   ·simp at hc
  case convert s d x=>
   obtain⟨x',hx,hc⟩:=hc
   split at hc
   ·simp at hc;subst hc;simp[B9.light]at hl
   ·rename_i e ht hu
    split at hc
    ·rename_i he
     simp at hc;subst hc
     obtain⟨hv,rfl⟩:=Bi ha
     obtain⟨r1,r2⟩:=rP hρ ho ht hu he hx (fun a len cap row hp hcap hg=>by
      have i2:=(hρ x x' hx).2
      rw[hp,Dp hcap]at i2
      exact k.rows _ _ hg (BK i2.1)) hv
     exact Ld.aX k r1 r2
    ·simp at hc
   ·simp at hc;subst hc;simp[B9.light]at hl
  case range t x=>
   split at hc
   ·rename_i kt e ht
    simp only[Option.map_eq_some_iff]at hc
    obtain⟨x',hx,hc⟩:=hc
    simp at hc;subst hc
    exact aj hρ ho ht hx k Jt hnx hlo ha
   ·rename_i ht
    simp only[Option.map_eq_some_iff]at hc
    obtain⟨x',hx,hc⟩:=hc
    simp at hc;subst hc
    exact ag hρ ho ht hx k Jt hnx hlo ha
   ·simp at hc
  case next x st=>
   split at hc
   ·rename_i hst
    subst hst
    simp only[Option.map_eq_some_iff]at hc
    obtain⟨x',hx,hc⟩:=hc
    simp at hc;subst hc
    exact iB hρ ho hx k ha
   ·simp at hc
  case entry x=>
   obtain⟨x',hx,hc⟩:=hc
   simp at hc;subst hc
   obtain⟨hv,rfl⟩:=Bi ha
   obtain⟨r1,r2⟩:=iD hρ ho hx k hv
   exact Ld.aX k r1 r2
  case mapEntry t m kk=>
   split at hc
   ·rename_i kt e ht
    simp only[Option.bind_eq_some_iff,Option.map_eq_some_iff]at hc
    obtain⟨z,hz,m',hm,k',hk,hc⟩:=hc
    simp at hc;subst hc
    exact ak hρ ho ht hz hm hk k ha
   ·simp at hc
  case entryStore t m s vv=>
   obtain⟨m',hm,s',hs,v',hv,hc⟩:=hc
   simp at hc;subst hc
   simp only[C6,Option.map_eq_some_iff,Prod.mk.injEq]at ha
   obtain⟨h1,ha,rfl,rfl⟩:=ha
   exact iC hρ ho hm hs hv k ha
  case call c=>
   unfold Tv at hc
   split at hc
   ·rename_i f Aoq
    simp only[Option.bind_eq_some_iff,Option.map_eq_some_iff]at hc
    obtain⟨_,_,_,_,hc⟩:=hc
    simp at hc
   ·split at hc
    ·simp only[Option.map_eq_some_iff]at hc
     obtain⟨_,_,hc⟩:=hc
     simp at hc
    ·simp at hc
   ·rename_i b hb
    split at hc
    ·rename_i x t hx ht
     simp only[Option.bind_eq_some_iff]at hc
     obtain⟨x',hx',hc⟩:=hc
     split at hc
     case h_3=>
      rename_i htu
      simp at hc;subst hc
      have hcc:=pR hb hx ht
      subst hcc
      obtain⟨hv,rfl⟩:=Bi ha
      obtain⟨r1,r2⟩:=av hρ ho htu hx' k hv
      exact Ld.aX k r1 r2
     case h_5=>
      rename_i e htu
      simp only[Option.map_eq_some_iff]at hc
      obtain⟨z,hz,hc⟩:=hc
      simp at hc;subst hc
      have hcc:=pR hb hx ht
      subst hcc
      exact rO hρ ho htu hz hx' k ha
     all_goals(simp at hc<;>subst hc<;>simp[B9.light]at hl)
    ·rename_i x y t u hx ht
     have hcc:=wB hb hx ht
     subst hcc
     simp only[Option.bind_eq_some_iff]at hc
     obtain⟨x',hx',y',hy',hc⟩:=hc
     split at hc
     ·rename_i e htu
      split at hc
      ·simp at hc
      ·rename_i d hd1 hu
       simp only[Option.bind_eq_some_iff]at hc
       obtain⟨ie,hi,z,hz,hc⟩:=hc
       split at hc
       ·rename_i hb2
        simp at hc;subst hc
        exact az hρ ho htu hu (fun k e=>hd1 k e) hi hz hb2.1 hb2.2 hx' hy' k Jt hnx hlo ha
       ·simp at hc
      ·simp at hc
     ·rename_i e htu
      simp only[Option.map_eq_some_iff]at hc
      obtain⟨s,hs,hc⟩:=hc
      simp at hc;subst hc
      exact lY hρ ho htu hs hx' hy' k ha
     ·rename_i e htu
      simp at hc;subst hc
      simp only[C6,Option.map_eq_some_iff,Prod.mk.injEq]at ha
      obtain⟨h1,ha,rfl,rfl⟩:=ha
      exact ay hρ ho htu hx' hy' k ha
     all_goals first
      |(simp at hc;done)
      |(simp at hc;subst hc;simp[B9.light]at hl)
    ·split at hc<;>simp only[Option.map_eq_some_iff,reduceCtorEq]at hc<;>obtain⟨_,_,hc⟩:=hc<;>simp at hc<;>subst hc<;>simp[B9.light]at hl
  case binOp op t x y t'=>
   obtain⟨ao',hb,hc⟩:=hc
   simp at hc;subst hc
   exact absurd (Vq hb).2 hl
  all_goals exfalso
  case makeMap t r=>cases r<;>simp at hc;subst hc;simp[B9.light]at hl
  case move=>obtain⟨_,_,hc⟩:=hc;simp at hc;subst hc;simp[B9.light]at hl
  case assign=>obtain⟨_,_,hc⟩:=hc;simp at hc;subst hc;simp[B9.light]at hl
  case pick=>obtain⟨_,_,_,_,_,_,hc⟩:=hc;simp at hc;subst hc;simp[B9.light]at hl
  case alloc=>obtain⟨_,_,hc⟩:=hc;simp at hc;subst hc;simp[B9.light]at hl
  case box=>obtain⟨_,_,hc⟩:=hc;simp at hc;subst hc;simp[B9.light]at hl
  all_goals
   repeat'(first
    |(simp[B9.light]at hl;done)
    |(simp at hc;done)
    |(simp at hc;subst hc;simp[B9.light]at hl;done)
    |(simp only[Option.bind_eq_some_iff]at hc;obtain⟨_,_,hc⟩:=hc)
    |(simp only[Option.map_eq_some_iff]at hc;obtain⟨_,_,hc⟩:=hc)
    |split at hc
    |(obtain⟨_,_,hc⟩:=hc))

end
end AE

/- The evaluator's code in the machine: rules for walking it. -/
namespace AE
open Go Go.RowKit


def P6 (ops:Array Oper):Option (Nat × Bool)->Option (Option (Nat × Bool))
 |none=>some none
 |some (j,b)=>((ops[j]?).bind (·.dst)).map fun t=>some (t,b)
def SZ:Qh->Bool
 |.op o=>o.known
 |.call _ _=>true
def Md (n:Nat):Option Nat->Bool
 |none=>true
 |some d=>decide (d<n)
def O9 (P:Program) (n:Nat) (ops:Array Oper) (o:Oper):Option A7:=
 (P6 ops o.guard).bind fun g=>(comp P o).bind fun i=>if SZ i&&Md n o.dst then some ⟨o.dst,g,i⟩else none
def DO (P:Program) (n:Nat) (ops:Array Oper):List Oper->Option (List A7)
 |[]=>some []
 |o::os=>(O9 P n ops o).bind fun x=>(DO P n ops os).map (x:: ·)

theorem C0 {P:Program}{n:Nat}{ops:Array Oper}:∀{os:List Oper} {xs:List A7},DO P n ops os=some xs->xs.length=os.length/\∀(i:Nat) (o:Oper),os[i]? =some o->∃x,xs[i]? =some x/\O9 P n ops o=some x
 |[],xs,h=>by simp[DO]at h;subst h;simp
 | o::os,xs,h=>by
   simp only[DO,Option.bind_eq_some_iff,Option.map_eq_some_iff]at h
   obtain⟨x,hx,ys,hys,rfl⟩:=h
   obtain⟨h1,h2⟩:=C0 hys
   refine⟨by simp[h1],fun i o' ho=>?_⟩
   cases i with
   |zero=>simp at ho;subst ho;exact⟨x,by simp,hx⟩
   |succ i=>simp at ho;simpa using h2 i o' ho


def WR (ro:Option Nat):Fence:={Fence.wide with round:=ro}
theorem u4 (ro:Option Nat) (n:Nat):(WR ro).room n:=fun _ h=>by simp[WR,Fence.wide]at h
theorem Fh (P:Program) (ro:Option Nat) (m:Machine):m.fenced P (WR ro):=fenced_wide P m
theorem RU {P:Program}{ro:Option Nat}{m m':Machine}(h:Steps P m m'):StepsIn (Machine.fenced P (WR ro)) P m m':=
 (StepsIn.of_steps h).mono fun m _=>Fh P ro m
theorem cI {P:Program}{ro:Option Nat}{m m':Machine}{e:Ending}(h:Comes P m m' e):ComesIn (Machine.fenced P (WR ro)) P m m' e:=by
 cases e with
 |returned v=>exact RU h
 |panicked chain=>exact RU h
 |outgrown=>exact h
theorem NQ {n:Nat}{P:Program}{ro:Option Nat}{f:FuncId}{args:Array Value}{w:World}{R:Ending->World->Prop}(h:Calls P f args w R):CallsIn (WR ro) n P f args w R:=
 ⟨trivial,fun cs _=>let⟨e,w',fr,r,s,x⟩:=h cs;⟨e,w',fr,r,cI s,x⟩⟩

structure Dk (I J:AZ) (lo base:Nat) (h':H) (w w':World):Prop where
 grows:CK I J w
 dom:∀r,J.dom r->I.dom r\/base<=r
 old:∀r s p,r<lo->J.at_ r s=some p->I.at_ r s=some p
 rel:Rel J h' w'
 ext:Ext I lo w w'

structure Quiet (lo:Nat) (h h':H):Prop where
 next:h.next<=h'.next
 same:∀r,r<lo->h'.get r=h.get r
 clean:(∀r,h.next<=r->h.get r=none)->∀r,h'.next<=r->h'.get r=none
theorem Quiet.refl (lo:Nat) (h:H):Quiet lo h h:=⟨Nat.le_refl _,fun _ _=>rfl,id⟩
theorem Quiet.trans {lo:Nat}{h h' h'':H}(a:Quiet lo h h') (b:Quiet lo h' h''):Quiet lo h h'':=
 ⟨Nat.le_trans a.next b.next,fun r hr=>(b.same r hr).trans (a.same r hr),fun c=>b.clean (a.clean c)⟩
theorem Quiet.mono {lo lo':Nat}{h h':H}(a:Quiet lo h h') (hl:lo'<=lo):Quiet lo' h h':=⟨a.next,fun r hr=>a.same r (by omega),a.clean⟩
theorem Dk.mono {I J:AZ}{lo lo' base:Nat}{h':H}{w w':World}(a:Dk I J lo base h' w w') (hl:lo'<=lo):Dk I J lo' base h' w w':=⟨a.grows,a.dom,fun r s p hr=>a.old r s p (by omega),a.rel,a.ext.mono hl⟩
theorem Dk.refl {I:AZ}{lo base:Nat}{h:H}{w:World}(k:Rel I h w):Dk I I lo base h w w:=⟨CK.refl I w,fun _ d=>.inl d,fun _ _ _ _ e=>e,k,Ext.refl I lo w⟩
theorem Dk.trans {I J K:AZ}{lo base base':Nat}{h' h'':H}{w w' w'':World}(a:Dk I J lo base h' w w') (b:Dk J K lo base' h'' w' w'') (hn:base<=base'):Dk I K lo base h'' w w'':=
 ⟨a.grows.trans b.grows a.ext.size,fun r d=>(b.dom r d).elim (a.dom r) (fun e=>.inr (by omega)),fun r s p hr e=>a.old r s p hr (b.old r s p hr e),b.rel,a.ext.trans a.grows b.ext⟩

structure AF (P:Program) (f:FuncId) (lo:Nat) (h:H) (args:List Value) (v:Value) (h':H):Prop where
 quiet:Quiet lo h h'
 enters:∀(as:Array Value) (w:World),(callFunc f as).run P w= .ok (.enter f as) w
 calls:∀I w,Rel I h w->C5 I args->Calls P f ⟨AX I args⟩ w fun e w'=>∃J,Dk I J lo h.next h' w w'/\In J v/\e= .returned (ren J v)

theorem AF.mono {P:Program}{f:FuncId}{lo lo':Nat}{h h':H}{args:List Value}{v:Value}(a:AF P f lo h args v h') (hl:lo'<=lo):AF P f lo' h args v h':=
 ⟨a.quiet.mono hl,a.enters,fun I w k i=>(a.calls I w k i).mono fun _ _ ⟨J,g,r⟩=>⟨J,g.mono hl,r⟩⟩

abbrev Tr:=Option Nat->(Exit->Act->World->Prop)->Act->World->Prop

def Xm (T:Tr):Prop:=∀ro,∀Q Q':Exit->Act->World->Prop,(∀e a w,Q e a w->Q' e a w)->∀a w,T ro Q a w->T ro Q' a w

structure Marks (J:AZ) (w w':World) (ms:List Deferred):Prop where
 each:∀m∈ms,∃b,m={target:=.collected b,args:= #[]}/\w.heap.size<=b/\b<w'.heap.size/\w'.heap[b]? =some (.deferred (some []))/\∀r s d,J.at_ r s≠some (b,d)
 apart:ms.Pairwise fun m m'=>m.target≠m'.target
theorem Marks.nil (J:AZ) (w w':World):Marks J w w' []:=⟨by simp,by simp⟩
theorem Marks.append {I J K:AZ}{lo base:Nat}{h'':H}{w w' w'':World}{ms ms':List Deferred}(a:Marks J w w' ms) (b:Marks K w' w'' ms') (W:Dk J K lo base h'' w' w'') (hs:w.heap.size<=w'.heap.size):Marks K w w'' (ms'++ms):=by
 refine⟨fun m hm=>?_,List.pairwise_append.2 ⟨b.apart,a.apart,fun m hm m' hm' e=>?_⟩⟩
 ·rcases List.mem_append.1 hm with hm|hm
  ·obtain⟨x,h1,h2,h3⟩:=b.each m hm
   exact⟨x,h1,by omega,h3⟩
  ·obtain⟨x,h1,h2,h3,h4,h5⟩:=a.each m hm
   refine⟨x,h1,h2,by have:=W.ext.size;omega,?_,fun r s d e=>?_⟩
   ·rw[W.ext.block x h3 (fun r s d e=>absurd e (h5 r s d))];exact h4
   ·rcases W.grows.new r s x d e with e|e|⟨s',d',e⟩
    ·exact h5 _ _ _ e
    ·omega
    ·exact h5 _ _ _ e
 ·obtain⟨x,h1,h2, -⟩:=b.each m hm
  obtain⟨y,g1, -,g3, -⟩:=a.each m' hm'
  rw[h1,g1]at e
  simp at e
  omega

def Goes (T:Tr) (n lo:Nat) (ts:Ts) (h:H) (e:Exit) (ts':Ts) (h':H):Prop:=
 ∀ro I w a,Rel I h w->Cu I n ts a.tmps->T ro (fun e' a' w'=>e'=e/\∃J,Dk I J lo h.next h' w w'/\Cu J n ts' a'.tmps/\∃ms,a'.defers=ms++a.defers/\Marks J w w' ms) a w

def WT (T:Tr) (n lo:Nat) (Q:Exit->Ts->H->Prop) (ts:Ts) (h:H):Prop:=
 ∃e ts' h',Q e ts' h'/\Quiet lo h h'/\Goes T n lo ts h e ts' h'

theorem WT.mono {T:Tr}{n lo:Nat}{Q Q':Exit->Ts->H->Prop}{ts:Ts}{h:H}(a:WT T n lo Q ts h) (hq:∀e ts h,Q e ts h->Q' e ts h):WT T n lo Q' ts h:=
 let⟨e,ts',h',q,r⟩:=a;⟨e,ts',h',hq _ _ _ q,r⟩

def EW (K:Ts->H->Prop) (Q:Exit->Ts->H->Prop):Exit->Ts->H->Prop
 |.normal,ts,h=>K ts h
 |e,ts,h=>Q e ts h

theorem WT.then {T1 T2 T:Tr}{n lo:Nat}{Q:Exit->Ts->H->Prop}{ts:Ts}{h:H}(m1:Xm T1) (m2:Xm T2) (hT:∀ro Q a w,T1 ro (Exit.then (T2 ro Q) Q) a w->T ro Q a w)
 (a:WT T1 n lo (EW (WT T2 n lo Q) Q) ts h):WT T n lo Q ts h:=by
 obtain⟨e,Iy,h1,q,hq,g⟩:=a
 by_cases he:e= .normal
 ·subst he
  obtain⟨e2,lJ,h2,q2,hq2,g2⟩:=q
  refine⟨e2,lJ,h2,q2,hq.trans hq2,fun ro I w a k t=>hT _ _ _ _ (m1 _ _ _ ?_ _ _ (g ro I w a k t))⟩
  rintro e' a' w' ⟨rfl,J,hw,t',ms,hd,hms⟩
  refine m2 _ _ _ ?_ _ _ (g2 ro J w' a' hw.rel t')
  rintro e' a'' w'' ⟨rfl,K,hw',t'',ms',hd',yG⟩
  exact⟨rfl,K,hw.trans hw' hq.next,t'',ms'++ms,by rw[hd',hd,List.append_assoc],hms.append (I:=I) yG hw' hw.ext.size⟩
 ·refine⟨e,Iy,h1,?_,hq,fun ro I w a k t=>hT _ _ _ _ (m1 _ _ _ ?_ _ _ (g ro I w a k t))⟩
  ·cases e<;>first|exact absurd rfl he|exact q
  ·rintro e' a' w' ⟨rfl,J,hw,t',hd⟩
   cases e'<;>first|exact absurd rfl he|exact⟨rfl,J,hw,t',hd⟩

def TC (tp:Bool) (P:Program) (C:Code):Tr:=fun ro Q a w=>(tp=true->ro=none)->C.wpIn (WR ro) 0 P Q a w
theorem B0 (tp:Bool) (P:Program) (C:Code):Xm (TC tp P C):=fun _ _ _ hq _ _ h htp=>Go.wpIn_mono (h htp) hq

def TL (tp:Bool) (P:Program) (c:Code):Tr:=fun ro Q a w=>(tp=true->ro=none)->∀(b:Frame) (k:List Item) (cs:List Frame),b.roundOf=ro->
 ∃e a' w',Q e a' w'/\ArrivesIn (Machine.fenced P (WR ro)) P (lone (b.atR a (.code c:: .inLoop c::k)) cs w) b k cs e a' w'
theorem gE (tp:Bool) (P:Program) (C:Code):Xm (TL tp P C):=fun _ _ _ hq _ _ h htp b k cs hb=>
 let⟨e,a',w',q,r⟩:=h htp b k cs hb;⟨e,a',w',hq _ _ _ q,r⟩
theorem Zx {tp:Bool}{P:Program}{c:Code}(ro:Option Nat) (Q:Exit->Act->World->Prop) (a:Act) (w:World) (h:TC tp P c ro (Exit.then (TL tp P c ro Q) Q) a w):TL tp P c ro Q a w:=by
 intro htp b k cs hro
 obtain⟨e,a₁,w₁,hq,harr⟩:=h htp b (.inLoop c::k) cs hro trivial (u4 ro _)
 cases e with
 | normal=>
   obtain⟨e₂,a₂,w₂,hq₂,harr₂⟩:=hq htp b k cs hro
   exact⟨e₂,a₂,w₂,hq₂,.of_steps (StepsIn.trans harr (.one (Fh P ro _) stepR_inLoop)) harr₂⟩
 |exit id=>exact⟨_,a₁,w₁,hq,.pass (x:=.inLoop c) rfl (fun _ _=>.inl (by simp)) harr⟩
 |goto l=>exact⟨_,a₁,w₁,hq,.pass (x:=.inLoop c) rfl (fun _ _=>.inl (by simp)) harr⟩
 |ret=>exact⟨_,a₁,w₁,hq,.pass (x:=.inLoop c) rfl (fun _ _=>.inl (by simp)) harr⟩
 |panic ch=>exact⟨_,a₁,w₁,hq,.pass (x:=.inLoop c) rfl (fun _ _=>.inl (by simp)) harr⟩
 |outgrown=>exact⟨_,a₁,w₁,hq,.pass (x:=.inLoop c) rfl (fun _ _=>.inl (by simp)) harr⟩
theorem gF {tp:Bool}{P:Program}{c:Code}(ro:Option Nat) (Q:Exit->Act->World->Prop) (a:Act) (w:World) (h:TL tp P c ro Q a w):TC tp P (.loop c) ro Q a w:=by
 intro htp b k cs hro _ _
 obtain⟨e,a',w',hq,harr⟩:=h htp b k cs hro
 exact⟨e,a',w',hq,.of_steps (.one (Fh P ro _) stepR_loop) harr⟩

section
variable {tp:Bool}{P:Program}{n lo:Nat}{Q:Exit->Ts->H->Prop}{ts:Ts}{h:H}

theorem WT.loop {c:Code}(a:WT (TL tp P c) n lo Q ts h):WT (TC tp P (.loop c)) n lo Q ts h:=
 let⟨e,ts',h',q,hq,g⟩:=a;⟨e,ts',h',q,hq,fun ro I w a k t=>gF _ _ _ _ (g ro I w a k t)⟩
theorem WT.round {c:Code}(a:WT (TC tp P c) n lo (EW (WT (TL tp P c) n lo Q) Q) ts h):WT (TL tp P c) n lo Q ts h:=
 WT.then (B0 tp P c) (gE tp P c) Zx a
theorem WT.seq {x y:Code}(a:WT (TC tp P x) n lo (EW (WT (TC tp P y) n lo Q) Q) ts h):WT (TC tp P (.seq x y)) n lo Q ts h:=
 WT.then (B0 tp P x) (B0 tp P y) (fun _ _ _ _ h htp=>wpIn_seq (Go.wpIn_mono (h htp) (fun e _ _ q=>by cases e<;>first|exact q htp|exact q))) a
theorem WT.here {C:Code}{e:Exit}(hC:∀ro (Q:Exit->Act->World->Prop) a w,Q e a w->C.wpIn (WR ro) 0 P Q a w) (q:Q e ts h):WT (TC tp P C) n lo Q ts h:=
 ⟨e,ts,h,q,Quiet.refl lo h,fun ro I w a k t _=>hC _ _ _ _ ⟨rfl,I,Dk.refl k,t,[],rfl,Marks.nil _ _ _⟩⟩
theorem WT.skip (q:Q .normal ts h):WT (TC tp P .skip) n lo Q ts h:=WT.here (fun _ _ _ _ h=>wpIn_skip h) q
theorem WT.label {l:Nat}(q:Q .normal ts h):WT (TC tp P (.label l)) n lo Q ts h:=WT.here (fun _ _ _ _ h=>wpIn_label h) q
theorem WT.ret (q:Q .ret ts h):WT (TC tp P .ret) n lo Q ts h:=WT.here (fun _ _ _ _ h=>wpIn_ret h) q
theorem WT.exit {id:Nat}(q:Q (.exit id) ts h):WT (TC tp P (.exit id)) n lo Q ts h:=WT.here (fun _ _ _ _ h=>wpIn_exit h) q

def EU (id:Nat) (Q:Exit->Ts->H->Prop):Exit->Ts->H->Prop
 |.exit id',ts,h=>if id'=id then Q .normal ts h else Q (.exit id') ts h
 |e,ts,h=>Q e ts h
theorem WT.block {id:Nat}{c:Code}(a:WT (TC tp P c) n lo (EU id Q) ts h):WT (TC tp P (.block id c)) n lo Q ts h:=by
 obtain⟨e,ts',h',q,hq,g⟩:=a
 by_cases he:e= .exit id
 ·subst he
  simp only[EU,if_true]at q
  refine⟨.normal,ts',h',q,hq,fun ro I w a k t htp=>wpIn_block (Go.wpIn_mono (g ro I w a k t htp) ?_)⟩
  rintro e' a' w' ⟨rfl,J,r⟩
  simp only[Exit.inBlock,if_true]
  exact⟨trivial,J,r⟩
 ·refine⟨e,ts',h',?_,hq,fun ro I w a k t htp=>wpIn_block (Go.wpIn_mono (g ro I w a k t htp) ?_)⟩
  ·cases e<;>try exact q
   rename_i id'
   simp only[EU]at q
   split at q
   ·rename_i h;subst h;exact absurd rfl he
   ·exact q
  ·rintro e' a' w' ⟨rfl,J,r⟩
   cases e'<;>try exact⟨rfl,J,r⟩
   rename_i id'
   simp only[Exit.inBlock]
   split
   ·rename_i h;subst h;exact absurd rfl he
   ·exact⟨trivial,J,r⟩

theorem Cu.ev {I:AZ}{a:Act}(t:Cu I n ts a.tmps):Ev I ts a.eval:=by
 intro x x' hx
 cases x with
 |tmp i=>simp[Bw]at hx;subst hx;exact t.2 i
 | const v=>
   simp only[Bw]at hx
   split at hx<;>simp at hx
   rename_i hf
   subst hx
   obtain⟨e,i⟩:=Cg I v hf
   exact⟨e.symm,i⟩
 |global g=>simp[Bw]at hx
 | func f=>
   simp[Bw]at hx;subst hx
   obtain⟨e,i⟩:=Cg I (.func (.func f) #[] #[]) (by simp[flat,PV,DZ])
   exact⟨e.symm,i⟩

theorem WT.cond {c:Operand}{c':BH}{x y:Code}{b:Bool}(hc:Bw c=some c') (hb:ev ts c'= .bool b) (a:WT (TC tp P (if b then x else y)) n lo Q ts h):WT (TC tp P (.cond c x y)) n lo Q ts h:=by
 obtain⟨e,ts',h',q,hq,g⟩:=a
 refine⟨e,ts',h',q,hq,fun ro I w a k t htp=>wpIn_cond (t:=b) ?_ (g ro I w a k t htp)⟩
 rw[(t.ev c c' hc).1,hb];simp[ren]

end
end AE

/- Regions that are walked in the order of the text. -/
namespace AE
open Go Go.RowKit

def Uk (ρ:Operand->Value) (o:Oper) (c:Call) (fv:Value):Prop:=resolve ρ c o.type=Deferred.ofValue fv (c.args.map ρ)
structure CX (P:Program) (fv:Value) (lo:Nat) (h:H) (args:List Value) (v:Value) (h':H):Prop where
 quiet:Quiet lo h h'
 run:∀(o:Oper) (c:Call) (ro:Option Nat) (a:Act) (I:AZ) (w:World) (K:Act->World->Prop) (Q:Exit->Act->World->Prop),o.op= .call c->Uk a.eval o c (ren I fv)->
  c.args.toList.map a.eval=AX I args->Rel I h w->In I fv->C5 I args->(∀J w',Dk I J lo h.next h' w w'->In J v->K (a.put o.dst (ren J v)) w')->o.wpIn (WR ro) 0 P a w K Q
theorem CX.mono {P:Program}{fv:Value}{lo lo':Nat}{h h':H}{args:List Value}{v:Value}(a:CX P fv lo h args v h') (hl:lo'<=lo):CX P fv lo' h args v h':=
 ⟨a.quiet.mono hl,fun o c ro b I w K Q h1 h2 h4 h5 h6 h7 h8=>a.run o c ro b I w K Q h1 h2 h4 h5 h6 h7 fun J w' hw hi=>h8 J w' (hw.mono hl) hi⟩

def Run (P:Program) (lo:Nat) (q:Bool) (base:Nat):Nat->List A7->(Ts->H->Prop)->Ts->H->Prop
 |_,[],K,ts,h=>K ts h
 | i,o::rest,K,ts,h=>
   if CN ts o.guard=true then
    match o.ins with
    |.op ao=>∃v h',C6 P lo (base+i) ts h ao=some (v,h')/\Run P lo q base (i+1) rest K (G0 ts v o.dst) h'
    |.call f args=>∃v h',CX P (ev ts f) (if q then h.next else lo) h (args.map (ev ts)) v h'/\Run P lo q base (i+1) rest K (G0 ts v o.dst) h'
   else Run P lo q base (i+1) rest K (G0 ts undef o.dst) h

theorem Ln (h:H) (u:Option (Nat × BQ)):(h.upd u).next=h.next:=by cases u<;>rfl
theorem Xd {P:Program}{lo Br:Nat}{ts:Ts}{h h':H}{v:Value}{ao:B9}(ha:C6 P lo Br ts h ao=some (v,h')):
 ∃u,h'=h.upd u/\(∀r row,u=some (r,row)->(r=Br\/(lo<=r/\r∈ao.wr ts/\h.get r≠none))):=by
 by_cases hne:ao.UL=true
 ·obtain⟨u,e,h2, -⟩:=Vt hne ha
  exact⟨u,e,h2⟩
 ·cases ao<;>first|(simp[B9.UL]at hne;done)|skip
  rename_i x
  simp only[C6,keep,Option.map_eq_some_iff,Prod.mk.injEq]at ha
  obtain⟨_,_, -,rfl⟩:=ha
  exact⟨none,rfl,by simp⟩
theorem Zv {P:Program}{lo Br:Nat}{ts:Ts}{h h':H}{v:Value}{ao:B9}(ha:C6 P lo Br ts h ao=some (v,h')):h'.next=h.next:=by
 obtain⟨u,rfl, -⟩:=Xd ha
 exact Ln h u
theorem Qb {P:Program}{lo Br:Nat}{ts:Ts}{h h':H}{v:Value}{ao:B9}(ha:C6 P lo Br ts h ao=some (v,h')) (hn:lo<=Br) (hnx:Br<h.next):Quiet lo h h':=by
 obtain⟨u,rfl,h2⟩:=Xd ha
 refine⟨by rw[Ln];exact Nat.le_refl _,fun r hr=>?_,fun hc r hr=>?_⟩
 ·cases u with
  |none=>rfl
  | some p=>
    simp only[H.upd,H.put]
    rw[if_neg]
    intro e
    rcases h2 p.1 p.2 rfl with e'|e'
    ·omega
    ·have:=e'.1;omega
 ·rw[Ln]at hr
  cases u with
  |none=>exact hc r hr
  | some p=>
    simp only[H.upd,H.put]
    rw[if_neg]
    ·exact hc r hr
    intro e
    rcases h2 p.1 p.2 rfl with e'|e'
    ·omega
    ·exact e'.2.2 (hc _ (by omega))

theorem Cu.put {I:AZ}{n:Nat}{ts:Ts}{a:Act}{v:Value}{dst:Option Nat}(t:Cu I n ts a.tmps) (hv:In I v) (hd:Md n dst=true):Cu I n (G0 ts v dst) (a.put dst (ren I v)).tmps:=by
 cases dst with
 |none=>exact t
 | some d=>
   simp only[Md,decide_eq_true_eq]at hd
   refine⟨by simp[Act.put,t.1],fun i=>?_⟩
   simp only[G0,JU,Act.put,Array.getD_eq_getD_getElem?,Array.getElem?_setIfInBounds]
   by_cases hi:i=d
   ·subst hi
    simp[t.1,hd,hv]
   ·rw[if_neg (fun e=>hi e.symm),if_neg hi,<-Array.getD_eq_getD_getElem?]
    exact t.2 i
theorem Act.Dt (a:Act) (d:Option Nat) (v:Value):(a.put d v).defers=a.defers:=by cases d<;>rfl
theorem Dr (I:AZ):ren I undef=undef/\In I undef:=by simp[undef,ren,AX,In,C5]

theorem Gp {I:AZ}{n:Nat}{ts:Ts}{a:Act}{ops:Array Oper}{o:Oper}{g:Option (Nat × Bool)}(t:Cu I n ts a.tmps) (hg:P6 ops o.guard=some g):Region.wanted o (yielded ops a.tmps)=CN ts g:=by
 unfold Region.wanted
 cases ho:o.guard with
 |none=>rw[ho]at hg;simp[P6]at hg;subst hg;rfl
 | some p=>
   obtain⟨j,b⟩:=p
   rw[ho]at hg
   simp only[P6,Option.map_eq_some_iff]at hg
   obtain⟨d,hd,rfl⟩:=hg
   have h2:=(t.2 d).1
   simp only[CN,yielded,hd,Option.bind_some]
   rw[Array.getD_eq_getD_getElem?]at h2
   cases hh:a.tmps[d]? with
   | none=>
     rw[hh]at h2
     simp only[Option.getD_none]at h2
     cases ht:ts d<;>rw[ht]at h2<;>first|rfl|(simp[ren,undef]at h2;done)
   | some x=>
     rw[hh]at h2
     simp only[Option.getD_some]at h2
     subst h2
     cases ht:ts d with
     |bool c=>simp[ren]
     |pointer p=>cases p<;>simp[ren]
     | slice p _ c=>
       cases p with
       |none=>simp[ren]
       |some p=>rcases Nat.lt_or_ge c far with hc|hc<;>simp[CQ,Et,hc]
     |map p=>cases p<;>simp[ren]
     |_=>simp[ren]

theorem Vi {P:Program}{ρ:Operand->Value}{o:Oper}{c:Call}{g:FuncId}{first CL:Array Value}{w:World}(ho:o.op= .call c) (hf:Uk ρ o c (.func (.func g) first CL))
 (he:∀(as:Array Value) (w:World),(callFunc g as).run P w= .ok (.enter g as) w):(execOp ρ o).run P w= .ok (.enter g (first++c.args.map ρ++CL)) w:=by
 unfold Uk at hf
 simp[execOp,ho,hf,Deferred.ofValue,invoke,he]

theorem Ji {P:Program}{o:Oper}{x:Qh}(h:comp P o=some x):∀c,o.op≠ .defer c:=by
 intro c hc
 unfold comp at h
 rw[hc]at h
 simp at h

theorem Kq {I:AZ}{ts:Ts}{ρ:Operand->Value}(hρ:Ev I ts ρ):∀{xs:List Operand} {ys:List BH},HT xs=some ys->xs.map ρ=AX I (ys.map (ev ts))/\C5 I (ys.map (ev ts))
 |[],ys,h=>by simp[HT]at h;subst h;simp[AX,C5]
 | x::xs,ys,h=>by
   simp only[HT,Option.bind_eq_some_iff,Option.map_eq_some_iff]at h
   obtain⟨y,hy,zs,hz,rfl⟩:=h
   obtain⟨e1,i1⟩:=hρ x y hy
   obtain⟨e2,i2⟩:=Kq hρ hz
   simp[AX,C5,e1,e2,i1,i2]

theorem MN {P:Program}{o:Oper}{f':BH}{as:List BH}(h:comp P o=some (.call f' as)):∃c,o.op= .call c/\(∀I ts ρ,Ev I ts ρ->Uk ρ o c (ren I (ev ts f'))/\In I (ev ts f'))/\HT c.args.toList=some as:=by
 have h:O4 P o=some (.call f' as):=by
  unfold comp at h
  split at h
  ·cases h
  ·cases h
  ·cases e:O4 P o with
   |none=>rw[e]at h;simp at h
   |some x=>rw[e]at h;simpa using h
 unfold O4 at h
 cases ho:o.op<;>rw[ho]at h<;>simp only[Option.bind_eq_some_iff,Option.map_eq_some_iff,reduceCtorEq]at h
 case call c=>
  unfold Tv at h
  split at h
  ·rename_i f hf
   simp only[Option.bind_eq_some_iff,Option.map_eq_some_iff]at h
   obtain⟨f1,h1,as1,h2,h3⟩:=h
   simp at h3
   obtain⟨rfl,rfl⟩:=h3
   refine⟨c,rfl,fun I ts ρ hρ=>?_,h2⟩
   obtain⟨e1,i1⟩:=hρ f _ h1
   refine⟨?_,i1⟩
   unfold Uk
   rw[<-e1]
   simp[resolve,hf]
  ·rename_i x nm hf
   split at h
   ·rename_i n hx
    simp only[Option.map_eq_some_iff]at h
    obtain⟨as1,h2,h3⟩:=h
    simp at h3
    obtain⟨rfl,rfl⟩:=h3
    refine⟨c,rfl,fun I ts ρ hρ=>?_,h2⟩
    obtain⟨e1,i1⟩:=hρ x _ hx
    simp only[ev]at e1 i1
    refine⟨?_,by simp[ev,In,Ku,C5,i1]⟩
    unfold Uk
    simp[resolve,hf,ev,ren,Gs,AX,Deferred.ofValue,e1]
   ·simp at h
  ·exfalso
   repeat'(first
    |(simp at h;done)
    |(simp only[Option.bind_eq_some_iff]at h;obtain⟨_,_,h⟩:=h)
    |(simp only[Option.map_eq_some_iff]at h;obtain⟨_,_,h⟩:=h)
    |split at h)
 case makeMap t r=>cases r<;>simp at h
 all_goals exfalso
 all_goals
  repeat'(first
   |(simp at h;done)
   |(simp only[Option.bind_eq_some_iff]at h;obtain⟨_,_,h⟩:=h)
   |(simp only[Option.map_eq_some_iff]at h;obtain⟨_,_,h⟩:=h)
   |split at h
   |(obtain⟨_,_,h⟩:=h))

section
variable {P:Program}{ro:Option Nat}{n lo base:Nat}

theorem IP {o:Oper}{a:Act}{w w':World}{nx:Next}{v:Value}{K:Act->World->Prop}{Q:Exit->Act->World->Prop}(hd:∀c,o.op≠ .defer c)
 (hr:(execOp a.eval o).run P w= .ok nx w') (hn:nx= .value v\/(nx= .skip/\v=undef)) (hK:K (a.put o.dst v) w'):o.wpIn (WR ro) 0 P a w K Q:=by
 refine⟨fun _ _=>trivial,?_⟩
 rw[Oper.semAt_eq _ _ _ hd,hr]
 rcases hn with rfl|⟨rfl,rfl⟩
 ·exact hK
 ·exact hK

theorem Ur {o:Oper}{a:Act}{w:World}{g:FuncId}{as:Array Value}{K:Act->World->Prop}{Q:Exit->Act->World->Prop}(hd:∀c,o.op≠ .defer c)
 (hr:(execOp a.eval o).run P w= .ok (.enter g as) w) (hc:Calls P g as w fun e w'=>∃v,e= .returned v/\K (a.put o.dst v) w'):o.wpIn (WR ro) 0 P a w K Q:=by
 refine⟨fun _ _=>trivial,?_⟩
 rw[Oper.semAt_eq _ _ _ hd,hr]
 refine⟨fun h=>by simp[WR,Fence.wide]at h,NQ (hc.mono ?_)⟩
 rintro e w' ⟨v,rfl,hK⟩
 exact hK

theorem AF.Vv {g:FuncId}{first CL args:List Value}{h h':H}{v:Value}(hcall:AF P g lo h (first++args++CL) v h'):CX P (.func (.func g) ⟨first⟩ ⟨CL⟩) lo h args v h':=by
 refine⟨hcall.quiet,fun o c ro a I w K Q ho ef TS k iF Ub hK=>?_⟩
 simp only[ren,Gs,In,Ku,true_and]at ef iF
 refine Ur (fun c' e=>by rw[ho]at e;simp at e) (Vi ho ef hcall.enters) ?_
 have bP:((⟨AX I first⟩:Array Value)++c.args.map a.eval++⟨AX I CL⟩)=⟨AX I (first++args++CL)⟩:=by
  apply Array.ext'
  simp[CY,TS]
 rw[bP]
 refine(hcall.calls I w k (by rw[Df,Df];exact⟨⟨iF.1,Ub⟩,iF.2⟩)).mono ?_
 rintro e w1 ⟨J,BZ,hin,rfl⟩
 exact⟨_,rfl,hK J w1 BZ hin⟩

theorem Og {q:Bool}{ops:Array Oper}{xs:List A7}{K:Ts->H->Prop}(hx:DO P n ops ops.toList=some xs) (hlo:lo<=base):∀(m i:Nat),i+m=xs.length->∀(ts:Ts) (h:H),base+xs.length<=h.next->Run P lo q base i (xs.drop i) K ts h->
 ∃ts' h',K ts' h'/\Quiet lo h h'/\∀ro I w a,Rel I h w->Cu I n ts a.tmps->(∀j,i<=j->j<xs.length->¬I.dom (base+j))->∀Q:Exit->Act->World->Prop,
  (∀J w' a',Dk I J lo base h' w w'->Cu J n ts' a'.tmps->a'.defers=a.defers->Q .normal a' w')->wpOpsIn (WR ro) 0 P ops Q (List.range' i m) a w
 | 0,i,hi,ts,h,hn,hr=>by
   rw[List.drop_of_length_le (by omega)]at hr
   refine⟨ts,h,hr,Quiet.refl _ _,fun ro I w a k t _ Q hQ=>?_⟩
   simp only[List.range'_zero,wpOpsIn]
   exact hQ I w a (Dk.refl k) t rfl
 | m + 1,i,hi,ts,h,hn,hr=>by
   obtain⟨hlen,hget⟩:=C0 hx
   have hil:i<xs.length:=by omega
   have hio:i<ops.toList.length:=by omega
   obtain⟨x,hxi,hxo⟩:=hget i ops.toList[i] (List.getElem?_eq_getElem hio)
   have hoi:ops[i]? =some ops.toList[i]:=by rw[<-Array.getElem?_toList];exact List.getElem?_eq_getElem hio
   generalize ops.toList[i]=o at hxo hoi
   rw[List.drop_eq_getElem_cons hil]at hr
   have hxe:xs[i]=x:=by rw[List.getElem?_eq_getElem hil]at hxi;simpa using hxi
   rw[hxe]at hr
   simp only[O9,Option.bind_eq_some_iff]at hxo
   obtain⟨gd,hgd,ins,hins,hxo⟩:=hxo
   split at hxo
   ·rename_i hok
    simp only[Bool.and_eq_true]at hok
    simp only[Option.some.injEq]at hxo
    subst hxo
    simp only[Run]at hr
    have hdef:=Ji hins
    have hm:i+1+m=xs.length:=by omega
    split at hr
    ·rename_i hw
     cases ins with
     | op ao=>
       simp only at hr
       obtain⟨v,h1,ha,hr⟩:=hr
       have hnx:=Zv ha
       have hq:=Qb ha (Br:=base+i) (by omega) (by omega)
       obtain⟨ts',h',hK,hq',hrest⟩:=Og hx hlo m (i+1) hm _ _ (by rw[hnx];exact hn) hr
       refine⟨ts',h',hK,hq.trans hq',fun ro I w a k t hfr Q hQ=>?_⟩
       obtain⟨J,w1,nx,⟨hg,hdom,hold⟩,hrel,hin,hext,hrun,yE⟩:=ah t.ev hins hok.1 k (hfr i (Nat.le_refl i) hil) (by omega) (by omega) ha
       rw[List.range'_succ]
       simp only[wpOpsIn,hoi,Gp t hgd,hw,if_true]
       refine IP (v:=ren J v) hdef hrun (yE.imp id (fun e=>⟨e.1,by rw[e.2];exact(Dr J).1⟩)) ?_
       refine hrest ro J w1 _ hrel ((t.le hg.le).put hin hok.2) (fun j hj hjl d=>?_) Q (fun J' w' a' hw' t' hd'=>?_)
       ·rcases hdom _ d with d|d
        ·exact hfr j (by omega) hjl d
        ·omega
       ·refine hQ J' w' a' ?_ t' (hd'.trans (Act.Dt a o.dst (ren J v)))
        exact Dk.trans ⟨hg,fun r d=>(hdom r d).imp id (fun e=>by omega),hold,hrel,hext⟩ hw' (Nat.le_refl _)
     | call f args=>
       simp only at hr
       obtain⟨v,h1,hcall,hr⟩:=hr
       replace hcall:=hcall.mono (lo':=lo) (by cases q<;>simp;omega)
       obtain⟨ts',h',hK,hq',hrest⟩:=Og hx hlo m (i+1) hm _ _ (Nat.le_trans hn hcall.quiet.next) hr
       refine⟨ts',h',hK,hcall.quiet.trans hq',fun ro I w a k t hfr Q hQ=>?_⟩
       obtain⟨c,ho,hcf,hcas⟩:=MN hins
       obtain⟨ef,iF⟩:=hcf I ts _ t.ev
       obtain⟨TS,Ub⟩:=Kq t.ev hcas
       rw[List.range'_succ]
       simp only[wpOpsIn,hoi,Gp t hgd,hw,if_true]
       refine hcall.run o c ro a I w _ Q ho ef TS k iF Ub fun J w1 BZ hin=>?_
       refine hrest ro J w1 _ BZ.rel ((t.le BZ.grows.le).put hin hok.2) (fun j hj hjl d=>?_) Q (fun J' w' a' hw' t' hd'=>?_)
       ·rcases BZ.dom _ d with d|d
        ·exact hfr j (by omega) hjl d
        ·omega
       ·refine hQ J' w' a' ?_ t' (hd'.trans (Act.Dt a o.dst (ren J v)))
        exact Dk.trans ⟨BZ.grows,fun r d=>(BZ.dom r d).imp id (fun e=>by omega),BZ.old,BZ.rel,BZ.ext⟩ hw' (Nat.le_refl _)
    ·rename_i hw
     obtain⟨ts',h',hK,hq',hrest⟩:=Og hx hlo m (i+1) hm _ _ hn hr
     refine⟨ts',h',hK,hq',fun ro I w a k t hfr Q hQ=>?_⟩
     rw[List.range'_succ]
     have hw':CN ts gd=false:=by simpa using hw
     simp only[wpOpsIn,hoi,Gp t hgd,hw',Bool.false_eq_true,if_false]
     refine⟨fun _ _=>trivial,?_⟩
     have hu:=(Dr I)
     have tp:=t.put (v:=undef) hu.2 hok.2
     rw[hu.1]at tp
     exact hrest ro I w _ k tp (fun j hj hjl=>hfr j (by omega) hjl) Q (fun J' w' a' hw' t' hd'=>hQ J' w' a' hw' t' (hd'.trans (Act.Dt a o.dst undef)))
   ·simp at hxo

def H.bump (h:H) (k:Nat):H:=⟨h.get,h.next+k⟩
theorem Rel.bump {I:AZ}{h:H}{w:World}(k:Rel I h w) (m:Nat):Rel I (h.bump m) w:=⟨k.rows,fun r d=>Nat.lt_of_lt_of_le (k.lt r d) (Nat.le_add_right _ _),k.size,k.base,k.tabs,k.inj,fun r hr=>k.clean r (Nat.le_trans (Nat.le_add_right _ _) hr)⟩

theorem WT.reg {tp q:Bool}{id:Nat}{ops:Array Oper}{xs:List A7}{Q:Exit->Ts->H->Prop}{ts:Ts}{h:H}(hx:DO P n ops ops.toList=some xs) (hlo:lo<=h.next) (hr:Run P lo q h.next 0 xs (Q .normal) ts (h.bump xs.length)):
 WT (TC tp P (.region id ops false)) n lo Q ts h:=by
 have hlen:=(C0 hx).1
 obtain⟨ts',h',hK,hq,hrest⟩:=Og hx hlo xs.length 0 (by omega) ts (h.bump xs.length) (Nat.le_refl _) (by simpa using hr)
 refine⟨.normal,ts',h',hK,⟨Nat.le_trans (Nat.le_add_right _ _) hq.next,hq.same,fun hc=>hq.clean fun r hr=>hc r (Nat.le_trans (Nat.le_add_right _ _) hr)⟩,fun ro I w a k t _=>wpIn_region ?_⟩
 have:=hrest ro I w a (k.bump _) t (fun j _ _ d=>by have:=k.lt _ d;omega) (fun e' a' w'=>e'= .normal/\∃J,Dk I J lo h.next h' w w'/\Cu J n ts' a'.tmps/\∃ms,a'.defers=ms++a.defers/\Marks J w w' ms)
  (fun J w' a' hw t' hd=>⟨rfl,J,hw,t',[],hd,Marks.nil _ _ _⟩)
 rw[List.range_eq_range',show ops.size=xs.length by rw[hlen];simp]
 exact this

end
end AE

/- Versions: what stands after the latest of those that were taken. -/
namespace AE
open Go

open Classical in
noncomputable def ver (w:Nat->Prop):Nat->Nat
 |0=>0
 |k+1=>if w k then k+1 else ver w k

theorem JZ (w:Nat->Prop):∀k,(ver w k=0/\∀j,j<k->¬w j)\/∃j,j<k/\ver w k=j+1/\w j/\∀j',j<j'->j'<k->¬w j'
 |0=>.inl ⟨rfl,fun j hj=>by omega⟩
 | k +1=>by
   by_cases hw:w k
   ·exact .inr ⟨k,by omega,by simp[ver,hw],hw,fun j' h1 h2=>by omega⟩
   ·rcases JZ w k with⟨h1,h2⟩|⟨j,h1,h2,h3,h4⟩
    ·refine .inl ⟨by simp[ver,hw,h1],fun j hj=>?_⟩
     by_cases hjk:j=k
     ·subst hjk;exact hw
     ·exact h2 j (by omega)
    ·refine .inr ⟨j,by omega,by simp[ver,hw,h2],h3,fun j' a b=>?_⟩
     by_cases hjk:j'=k
     ·subst hjk;exact hw
     ·exact h4 j' a (by omega)

theorem stays {α:Type}{F:Nat->α}{W:Nat->Prop}{m:Nat}(hF:∀k,k<m->¬W k->F (k+1)=F k) {a:Nat}:∀(d:Nat),a+d<=m->(∀j,a<=j->j<a+d->¬W j)->F (a+d)=F a
 |0,_,_=>rfl
 | d+1,h,hn=>by
   rw[<-Nat.add_assoc,hF (a+d) (by omega) (hn _ (by omega) (by omega))]
   exact stays hF d (by omega) (fun j h1 h2=>hn j h1 (by omega))

theorem IL {α:Type}{F:Nat->α}{W L:Nat->Prop}{m i:Nat}(hF:∀k,k<m->¬W k->F (k+1)=F k) (hi:i<=m) (h:∀j,j<m->W j->(L j↔j<i)):F (ver (fun j=>L j/\W j) m)=F i:=by
 rcases JZ (fun j=>L j/\W j) m with⟨h1,h2⟩|⟨j,h1,h2,h3,h4⟩
 ·rw[h1]
  have:=stays (a:=0) hF i (by omega) (fun j _ hj hw=>h2 j (by omega) ⟨(h j (by omega) hw).2 (by omega),hw⟩)
  simpa using this.symm
 ·rw[h2]
  have hji:j<i:=(h j h1 h3.2).1 h3.1
  have:=stays (a:=j+1) hF (i - (j+1)) (by omega) (fun j' a b hw=>h4 j' (by omega) (by omega) ⟨(h j' (by omega) hw).2 (by omega),hw⟩)
  rw[show j+1+(i - (j+1))=i by omega]at this
  exact this.symm

theorem RH {W L L':Nat->Prop}{m i:Nat}(hW:¬W i) (hL:∀j,j≠i->(L' j↔L j)):ver (fun j=>L' j/\W j) m=ver (fun j=>L j/\W j) m:=by
 induction m with
 |zero=>rfl
 | succ k ih=>
   have e:(L' k/\W k)=(L k/\W k):=by
    by_cases hk:k=i
    ·subst hk;simp[hW]
    ·simp[hL k hk]
   simp only[ver,ih]
   by_cases hw:L k/\W k
   ·rw[if_pos hw,if_pos (e.mpr hw)]
   ·rw[if_neg hw,if_neg (fun h=>hw (e.mp h))]
theorem QY {W L':Nat->Prop}{m i:Nat}(hi:i<m) (hW:W i) (hL:L' i) (hn:∀j,j<m->i<j->W j->¬L' j):ver (fun j=>L' j/\W j) m=i+1:=by
 rcases JZ (fun j=>L' j/\W j) m with⟨h1,h2⟩|⟨j,h1,h2,h3,h4⟩
 ·exact absurd ⟨hL,hW⟩ (h2 i hi)
 ·rw[h2]
  rcases Nat.lt_trichotomy i j with h|h|h
  ·exact absurd h3.1 (hn j h1 h h3.2)
  ·rw[h]
  ·exact absurd ⟨hL,hW⟩ (h4 i h hi)


def A7.rd (x:A7):List Nat:=(match x.guard with|some p=>[p.1]|none=>[])++(match x.ins with|.op ao=>ao.rd|.call f as=>f.rd++xu as)
def B9.RE:B9->List BH
 |.store _ a _=>[a]
 |.append _ _ _ s _=>[s]
 |.copy _ d _=>[d]
 |.qP _ x=>[x]
 |.Ig _ m _ _=>[m]
 |.delete _ m _=>[m]
 |.H4 _ _ m _=>[m]
 |.Mc m _ _=>[m]
 |.M1 x=>[x]
 |_=>[]
def B9.Fi:B9->List BH
 |.Af a|.Az _ a=>[a]
 |.store _ a _=>[a]
 |.lookup _ _ _ m _=>[m]
 |.NC x=>[x]
 |.b2s x=>[x]
 |.append _ _ _ s x=>[s,x]
 |.copy _ d s=>[d,s]
 |.qP _ x=>[x]
 |.Ig _ m _ _=>[m]
 |.delete _ m _=>[m]
 |.H4 _ _ m _=>[m]
 |.Mc m _ _=>[m]
 |.GI m=>[m]
 |.M1 x=>[x]
 |_=>[]
def E9 (ts:Ts) (xs:List BH):List Nat:=xs.flatMap fun x=>A9 (ev ts x)
theorem dF {ts:Ts}{ao:B9}{r:Nat}(h:r∈ao.wr ts):r∈E9 ts ao.RE:=by
 cases ao<;>simp only[B9.wr]at h<;>first|(simp at h;done)|(simpa[B9.RE,E9]using h)|skip
 split at h
 ·simp at h
 ·simpa[B9.RE,E9]using h
theorem Nn (ts:Ts) (ao:B9):ao.touch ts=E9 ts ao.Fi:=by cases ao<;>simp[B9.touch,B9.Fi,E9]
theorem Xy {ao:B9}{x:BH}(h:x∈ao.RE):x∈ao.Fi:=by cases ao<;>simp[B9.RE,B9.Fi]at h⊢<;>simp[h]
theorem rX {ao:B9}{x:BH}(h:x∈ao.Fi):∀t∈x.rd,t∈ao.rd:=by
 intro t ht
 cases ao<;>simp[B9.Fi]at h<;>simp only[B9.rd,List.mem_append]
 all_goals first
  |(subst h;exact ht)
  |(subst h;exact .inl ht)
  |(subst h;exact .inl (.inl ht))
  |(rcases h with rfl|rfl;exact .inl ht;exact .inr ht)

def A7.Ua (x:A7):Bool:=match x.ins with|.call _ _=>true|_=>false
def A7.RE (x:A7):List BH:=match x.ins with|.op ao=>ao.RE|_=>[]
def A7.Fi (x:A7):List BH:=match x.ins with|.op ao=>ao.Fi|_=>[]
def A7.FV (x:A7):Bool:=match x.ins with|.op ao=>ao.FV|_=>true

def II (ops:Array Oper) (i:Nat):List Nat:=match ops[i]? with
 |some o=>(o.after.toList.filter (Region.binds .any ·)).map (·.on)
 |none=>[]
def Wm (ms:List Nat) (es:List Nat):Nat:=es.foldl (fun m e=>m ||| (1 <<< e) ||| ms.getD e 0) 0
def masks (ops:Array Oper):Nat->List Nat
 |0=>[]
 |k+1=>masks ops k++[Wm (masks ops k) (II ops k)]

theorem aS {ms es:List Nat}{j:Nat}:(Wm ms es).testBit j=true->∃e∈es,j=e\/(ms.getD e 0).testBit j=true:=by
 have key:∀(es:List Nat) (m:Nat),(es.foldl (fun m e=>m ||| (1 <<< e) ||| ms.getD e 0) m).testBit j=true->m.testBit j=true\/∃e∈es,j=e\/(ms.getD e 0).testBit j=true:=by
  intro es
  induction es with
  |nil=>intro m h;exact .inl h
  | cons e es ih=>
    intro m h
    rcases ih _ h with h|⟨e',he',h⟩
    ·simp only[Nat.testBit_or,Bool.or_eq_true]at h
     rcases h with(h|h)|h
     ·exact .inl h
     ·refine .inr ⟨e,by simp,.inl ?_⟩
      rw[Nat.testBit_shiftLeft]at h
      simp only[Bool.and_eq_true,decide_eq_true_eq]at h
      have:=Nat.testBit_one_eq_true_iff_self_eq_zero.1 h.2
      omega
     ·exact .inr ⟨e,by simp,.inr h⟩
    ·exact .inr ⟨e',by simp[he'],h⟩
 intro h
 rcases key es 0 h with h|h
 ·simp at h
 ·exact h

theorem Im (ops:Array Oper):∀k,(masks ops k).length=k
 |0=>rfl
 |k+1=>by simp[masks,Im ops k]
theorem IA (ops:Array Oper):∀(k i:Nat),i<k->(masks ops k).getD i 0=Wm (masks ops i) (II ops i)
 |0,i,h=>by omega
 | k+1,i,h=>by
   simp only[masks]
   by_cases hi:i=k
   ·subst hi
    rw[List.getD_eq_getElem?_getD,List.getElem?_append_right (by rw[Im];omega)]
    simp[Im]
   ·rw[List.getD_eq_getElem?_getD,List.getElem?_append_left (by rw[Im];omega),<-List.getD_eq_getElem?_getD]
    exact IA ops k i (by omega)

theorem KL {ops:Array Oper}{L:Nat->Prop}(down:∀i,L i->∀e∈II ops i,L e) (lt:∀k e,e∈II ops k->e<k):∀(i:Nat),(∀e∈II ops i,L e)->∀j,(Wm (masks ops i) (II ops i)).testBit j=true->L j/\j<i:=by
 intro i
 induction i using Nat.strongRecOn with
 | _ i ih=>
   intro hb j hj
   obtain⟨e,he,h⟩:=aS hj
   have hlt:=lt i e he
   rcases h with rfl|h
   ·exact⟨hb _ he,hlt⟩
   ·rw[IA ops i e hlt]at h
    obtain⟨h1,h2⟩:=ih e hlt (down e (hb e he)) j h
    exact⟨h1,by omega⟩

def Lc (d:Option Nat) (l:List Nat):Bool:=match d with|some t=>l.contains t|none=>false
def must (x y:A7):Bool:=
 Lc x.dst y.rd||Lc y.dst x.rd||(x.dst.isSome&&x.dst==y.dst)||(x.Ua&&(y.Ua||!y.RE.isEmpty))||(!x.RE.isEmpty&&y.Ua)
def W5:BH->Bool
 |.t _=>true
 |.c v=>flat v
 |.m _ _=>true
def ord (ms:List Nat) (i j:Nat):Bool:=(ms.getD j 0).testBit i
def TE (xs:List A7) (f:Nat->A7->Nat->A7->Bool):Bool:=
 (List.range xs.length).all fun j=>(List.range j).all fun i=>match xs[i]?,xs[j]? with|some x,some y=>f i x j y|_,_=>true
def Rf (a b:List BH):List (BH × BH):=a.flatMap fun x=>b.map fun y=>(x,y)
def XQ:Option BH->Option BH->Bool
 | some (.c (.int _ a)),some (.c (.int _ b))=>match a,b with
   |.ofNat m,.ofNat n=>Nat.beq m n
   |_,_=>false
 |some (.t a),some (.t b)=>Nat.beq a b
 |_,_=>false
def wA (t:Nat) (w:A7):Bool:=w.dst==some t&&w.guard.isNone&&(match w.ins with
 |.op (.Ls _ _ _ _ hi mx)|.op (.HL _ _ _ hi mx)=>XQ hi mx
 |_=>false)
def WJ (xs:List A7) (j:Nat) (y:A7):Bool:=match y.ins with
 |.op (.append _ _ _ (.t t) _)=>(List.range j).any fun l=>(match xs[l]? with|some w=>wA t w|none=>false)&&(List.range j).all fun m=>decide (m<=l)||(match xs[m]? with|some z=>!(z.dst==some t)|none=>false)
 |_=>false
def qI (xs:List A7) (j:Nat) (y:A7):List BH:=if WJ xs j y then[]else y.RE
def clash (xs:List A7) (i j:Nat) (x y:A7):List (BH × BH):=Rf (qI xs i x) y.Fi++Rf x.Fi (qI xs j y)
def K7 (x y:BH):Bool:=match x,y with
 |.t a,.t b=>a==b
 |_,_=>false
def Rm (l:List (BH × BH)) (p:BH × BH):Bool:=l.any fun q=>K7 q.1 p.1&&K7 q.2 p.2

def A7.kM (x:A7):Bool:=match x.ins with|.op (.lookup _ _ _ _ _)=>true|_=>false
def NT (xs:List A7) (i j:Nat) (x y:A7):Bool:=match x.ins,y.ins with
 | .op (.lookup kt z ok m k),.op (.H4 kt' z' m' k')=>!ok&&Nat.beq kt kt'&&wj z z'&&K7 m m'&&K7 k k'&&decide (i<j)&&
   (List.range j).all fun l=>decide (l<i)||(match xs[l]? with|some w=>w.RE.isEmpty&&!w.Ua&&!Lc w.dst (m.rd++k.rd)|none=>false)
 |_,_=>false

def qO (ops:Array Oper) (xs:List A7) (ap:List (BH × BH)):Bool:=
 let ms:=masks ops xs.length
 (List.range xs.length).all (fun i=>(II ops i).all (· <i))&&
 xs.all (fun x=>x.FV&&x.Fi.all W5)&&
 TE xs (fun i x j y=>(ord ms i j||(!must x y&&((clash xs i j x y).all (Rm ap)||NT xs i j x y)))&&x.Fi.all (fun o=>!Lc y.dst o.rd))&&
 xs.all (fun x=>x.Fi.all fun o=>!Lc x.dst o.rd)

theorem Nl {xs:List A7}{f:Nat->A7->Nat->A7->Bool}(h:TE xs f=true) {i j:Nat}{x y:A7}(hij:i<j) (hx:xs[i]? =some x) (hy:xs[j]? =some y):f i x j y=true:=by
 unfold TE at h
 rw[List.all_eq_true]at h
 have hj:j<xs.length:=(List.getElem?_eq_some_iff.1 hy).1
 have:=h j (by simpa using hj)
 rw[List.all_eq_true]at this
 have:=this i (by simpa using hij)
 rw[hx,hy]at this
 exact this

end AE

/- The text's order, as a trace. -/
namespace AE
open Go

inductive HV (P:Program) (lo base i:Nat) (x:A7):Ts × H->Option (Nat × BQ)->Ts × H->Prop
 |skip (ts:Ts) (h:H):CN ts x.guard=false->HV P lo base i x (ts,h) none (G0 ts undef x.dst,h)
 |op (ts:Ts) (h:H) (ao:B9) (v:Value) (u:Option (Nat × BQ)):CN ts x.guard=true->x.ins= .op ao->
  (∀r row,u=some (r,row)->(r=base+i\/(lo<=r/\r∈ao.wr ts/\h.get r≠none)))->
  (∀g:H,(∀r∈ao.touch ts,h.get r≠none->g.get r=h.get r)->C6 P lo (base+i) ts g ao=some (v,g.upd u))->
  HV P lo base i x (ts,h) u (G0 ts v x.dst,h.upd u)
 |call (ts:Ts) (h:H) (f:BH) (args:List BH) (v:Value) (h':H):CN ts x.guard=true->x.ins= .call f args->
  CX P (ev ts f) h.next h (args.map (ev ts)) v h'->HV P lo base i x (ts,h) none (G0 ts v x.dst,h')

theorem J3 {P:Program}{lo base:Nat}{K:Ts->H->Prop}:∀(xs:List A7) (i:Nat) (ts:Ts) (h:H),(∀x∈xs,x.FV=true)->Run P lo true base i xs K ts h->
 ∃(S:Nat->Ts × H) (U:Nat->Option (Nat × BQ)),S 0=(ts,h)/\(∀j x,xs[j]? =some x->HV P lo base (i+j) x (S j) (U j) (S (j+1)))/\K (S xs.length).1 (S xs.length).2
 |[],i,ts,h,_,hr=>⟨fun _=>(ts,h),fun _=>none,rfl,by simp,hr⟩
 | x ::xs,i,ts,h,hns,hr=>by
   have mk:∀(u:Option (Nat × BQ)) (s:Ts × H),HV P lo base i x (ts,h) u s->Run P lo true base (i+1) xs K s.1 s.2->
    ∃(S:Nat->Ts × H) (U:Nat->Option (Nat × BQ)),S 0=(ts,h)/\(∀j y,(x::xs)[j]? =some y->HV P lo base (i+j) y (S j) (U j) (S (j+1)))/\K (S (x::xs).length).1 (S (x::xs).length).2:=by
    intro u s hs hr
    obtain⟨S,U,h0,hstep,hK⟩:=J3 xs (i+1) s.1 s.2 (fun y hy=>hns y (List.mem_cons_of_mem _ hy)) hr
    refine⟨fun j=>match j with|0=>(ts,h)|j+1=>S j,fun j=>match j with|0=>u|j+1=>U j,rfl,fun j y hy=>?_,hK⟩
    cases j with
    | zero=>
      simp at hy;subst hy
      simp only[Nat.add_zero,h0]
      exact hs
    | succ j=>
      have:=hstep j y (by simpa using hy)
      rw[show i+(j+1)=i+1+j by omega]
      exact this
   simp only[Run]at hr
   split at hr
   ·rename_i hw
    split at hr
    ·rename_i ao hins
     obtain⟨v,h',ha,hr⟩:=hr
     have hne:ao.UL=true:=B9.mI (by have:=hns x List.mem_cons_self;rw[A7.FV,hins]at this;exact this)
     obtain⟨u,rfl,h2,h3⟩:=Vt hne ha
     exact mk u _ (.op ts h ao v u hw hins h2 h3) hr
    ·rename_i f args hins
     obtain⟨v,h',hcall,hr⟩:=hr
     exact mk none _ (.call ts h f args v h' hw hins (by simpa using hcall)) hr
   ·rename_i hw
    exact mk none _ (.skip ts h (by simpa using hw)) hr

structure Text (P:Program) (lo base:Nat) (xs:List A7) (S:Nat->Ts × H) (U:Nat->Option (Nat × BQ)):Prop where
 step:∀i x,xs[i]? =some x->HV P lo base i x (S i) (U i) (S (i+1))
 room:base+xs.length<=(S 0).2.next
 clean:∀r,(S 0).2.next<=r->(S 0).2.get r=none
 own:∀j,j<xs.length->(S 0).2.get (base+j)=none
 xR:lo<=base

def Wr (xs:List A7) (S:Nat->Ts × H) (U:Nat->Option (Nat × BQ)) (j r:Nat):Prop:=
 (∃row,U j=some (r,row))\/∃x,xs[j]? =some x/\x.Ua=true/\CN (S j).1 x.guard=true/\(S j).2.next<=r
def Wt (xs:List A7) (j t:Nat):Prop:=∃x,xs[j]? =some x/\x.dst=some t

section
variable {P:Program}{lo base:Nat}{xs:List A7}{S:Nat->Ts × H}{U:Nat->Option (Nat × BQ)}

theorem Text.at_ (T:Text P lo base xs S U) {i:Nat}(hi:i<xs.length):∃x,xs[i]? =some x/\HV P lo base i x (S i) (U i) (S (i+1)):=
 ⟨xs[i],List.getElem?_eq_getElem hi,T.step i _ (List.getElem?_eq_getElem hi)⟩

theorem fX {ts:Ts}{v:Value}{d:Option Nat}{t:Nat}(h:d≠some t):G0 ts v d t=ts t:=by
 cases d with
 |none=>rfl
 |some d=>simp only[G0,JU];rw[if_neg];rintro rfl;exact h rfl

theorem Text.tmp (T:Text P lo base xs S U) {t:Nat}:∀k,k<xs.length->¬Wt xs k t->(S (k+1)).1 t=(S k).1 t:=by
 intro k hk hw
 obtain⟨x,hx,hs⟩:=T.at_ hk
 have hd:x.dst≠some t:=fun e=>hw ⟨x,hx,e⟩
 generalize S k=a at hs
 generalize S (k+1)=b at hs
 generalize U k=u at hs
 cases hs<;>exact fX hd

theorem Text.heap (T:Text P lo base xs S U) {r:Nat}:∀k,k<xs.length->¬Wr xs S U k r->(S (k+1)).2.get r=(S k).2.get r:=by
 intro k hk hw
 obtain⟨x,hx,hs⟩:=T.at_ hk
 unfold Wr at hw
 generalize S k=a at hs hw
 generalize S (k+1)=b at hs
 generalize U k=u at hs hw
 cases hs with
 |skip ts h hg=>rfl
 | op ts h ao v u hg hins h2 h3=>
   cases u with
   |none=>rfl
   | some p=>
     simp only[H.upd,H.put]
     rw[if_neg]
     rintro rfl
     exact hw (.inl ⟨_,rfl⟩)
 | call ts h f args v h' hg hins hcall=>
   refine hcall.quiet.same r ?_
   rcases Nat.lt_or_ge r h.next with hlt|hge
   ·exact hlt
   ·exact absurd (.inr ⟨x,hx,by simp[A7.Ua,hins],hg,hge⟩) hw

theorem HV.quiet {i:Nat}{x:A7}{a b:Ts × H}{u:Option (Nat × BQ)}(hs:HV P lo base i x a u b) (hl:lo<=base) (hn:base+i<a.2.next):Quiet lo a.2 b.2:=by
 cases hs with
 |skip ts h hg=>exact Quiet.refl _ _
 |op ts h ao v u hg hins h2 h3=>exact Qb (h3 h fun _ _ _=>rfl) (by omega) hn
 |call ts h f args v h' hg hins hcall=>exact hcall.quiet.mono (by simp only at hn;omega)

theorem Text.quiet (T:Text P lo base xs S U):∀k,k<=xs.length->Quiet lo (S 0).2 (S k).2
 |0,_=>Quiet.refl _ _
 | k+1,hk=>by
   have ih:=Text.quiet T k (by omega)
   obtain⟨x,hx,hs⟩:=T.at_ (i:=k) (by omega)
   exact ih.trans (hs.quiet T.xR (by have:=T.room;have:=ih.next;omega))

theorem Text.eK (T:Text P lo base xs S U):∀d k,k+d<=xs.length->(S k).2.next<=(S (k+d)).2.next
 |0,_,_=>Nat.le_refl _
 | d+1,k,h=>by
   obtain⟨x,hx,hs⟩:=T.at_ (i:=k+d) (by omega)
   have:=hs.quiet T.xR (by have:=T.room;have:=(T.quiet (k+d) (by omega)).next;omega)
   exact Nat.le_trans (Text.eK T d k (by omega)) this.next
theorem Text.Mx (T:Text P lo base xs S U) {k l:Nat}(h:k<=l) (hl:l<=xs.length):(S k).2.next<=(S l).2.next:=by
 have:=T.eK (l - k) k (by omega)
 rwa [show k+(l - k)=l by omega]at this
theorem Text.room' (T:Text P lo base xs S U) {k:Nat}(hk:k<=xs.length):base+xs.length<=(S k).2.next:=Nat.le_trans T.room (T.quiet k hk).next
theorem Text.clean' (T:Text P lo base xs S U) {k:Nat}(hk:k<=xs.length):∀r,(S k).2.next<=r->(S k).2.get r=none:=(T.quiet k hk).clean T.clean

theorem Text.own' (T:Text P lo base xs S U) {j:Nat}(hj:j<xs.length):∀k,k<=j->(S k).2.get (base+j)=none
 |0,_=>T.own j hj
 | k + 1,hk=>by
   have ih:=Text.own' T hj k (by omega)
   rw[T.heap k (by omega) ?_]
   ·exact ih
   ·rintro(⟨row,hu⟩|⟨x,hx,hc, -,hn⟩)
    ·obtain⟨x,hx,hs⟩:=T.at_ (i:=k) (by omega)
     rw[hu]at hs
     generalize S k=a at hs ih
     generalize S (k+1)=b at hs
     cases hs with
     | op ts h ao v u hg hins h2 h3=>
       rcases h2 _ _ rfl with e|e
       ·omega
       ·exact e.2.2 ih
    ·have:=T.room' (k:=k) (by omega)
     omega

end
end AE

/- Regions that draw their order: whatever the order, the text's outcome. -/
namespace AE
open Go Go.RowKit

theorem wR (w:Nat->Prop) (m:Nat):ver w m<=m:=by
 rcases JZ w m with⟨h, -⟩|⟨j,h1,h2, -⟩<;>omega

section
variable {P:Program}{ro:Option Nat}{n lo base:Nat}{ops:Array Oper}{xs:List A7}{ap:List (BH × BH)}{S:Nat->Ts × H}{U:Nat->Option (Nat × BQ)}

noncomputable def Ir (xs:List A7) (S:Nat->Ts × H) (L:Nat->Prop):Ts:=fun t=>(S (ver (fun j=>L j/\Wt xs j t) xs.length)).1 t
noncomputable def Fv (xs:List A7) (S:Nat->Ts × H) (U:Nat->Option (Nat × BQ)) (L:Nat->Prop):H:=
 ⟨fun r=>(S (ver (fun j=>L j/\Wr xs S U j r) xs.length)).2.get r,(S xs.length).2.next⟩

structure Inv (n lo base:Nat) (ops:Array Oper) (xs:List A7) (S:Nat->Ts × H) (U:Nat->Option (Nat × BQ)) (I0:AZ) (w0:World) (a0:Act) (L:Nat->Prop) (I:AZ) (w:World) (a:Act):Prop where
 lt:∀i,L i->i<xs.length
 down:∀i,L i->∀e∈II ops i,L e
 ts:Cu I n (Ir xs S L) a.tmps
 rel:Rel I (Fv xs S U L) w
 own:∀j,j<xs.length->I.dom (base+j)->L j
 calls:∀(j:Nat) (x:A7),xs[j]? =some x->x.Ua=true->¬L j->∀r,I.dom r->r<(S j).2.next
 wrt:∀j r row,L j->U j=some (r,row)->r≠base+j->I.dom r
 grows:CK I0 I w0
 dom:∀r,I.dom r->I0.dom r\/base<=r
 old:∀r s p,r<lo->I.at_ r s=some p->I0.at_ r s=some p
 ext:Ext I0 lo w0 w
 defers:a.defers=a0.defers

structure Xo (ops:Array Oper) (xs:List A7) (ap:List (BH × BH)):Prop where
 lt:∀k e,e∈II ops k->k<xs.length->e<k
 FV:∀(i:Nat) (x:A7),xs[i]? =some x->x.FV=true
 const:∀(i:Nat) (x:A7),xs[i]? =some x->∀o∈x.Fi,W5 o=true
 pair:∀(i j:Nat) (x y:A7),i<j->xs[i]? =some x->xs[j]? =some y->ord (masks ops xs.length) i j=true\/(must x y=false/\((∀p∈clash xs i j x y,Rm ap p=true)\/NT xs i j x y=true))
 keep:∀(i j:Nat) (x y:A7),i<=j->xs[i]? =some x->xs[j]? =some y->∀o∈x.Fi,Lc y.dst o.rd=false

theorem OY (h:qO ops xs ap=true):Xo ops xs ap:=by
 simp only[qO,Bool.and_eq_true]at h
 obtain⟨⟨⟨h1,h2⟩,h3⟩,h4⟩:=h
 refine⟨fun k e he hk=>?_,fun i x hx=>?_,fun i x hx o ho=>?_,fun i j x y hij hx hy=>?_,fun i j x y hij hx hy o ho=>?_⟩
 ·have:=List.all_eq_true.1 h1 k (by simpa using hk)
  simpa using List.all_eq_true.1 this e he
 ·have:=List.all_eq_true.1 h2 x (List.mem_of_getElem? hx)
  simp only[Bool.and_eq_true]at this
  exact this.1
 ·have:=List.all_eq_true.1 h2 x (List.mem_of_getElem? hx)
  simp only[Bool.and_eq_true]at this
  exact List.all_eq_true.1 this.2 o ho
 ·have:=Nl h3 hij hx hy
  simp only[Bool.and_eq_true,Bool.or_eq_true,Bool.not_eq_true']at this
  exact this.1.imp id (fun e=>⟨e.1,e.2.imp (fun e p hp=>List.all_eq_true.1 e p hp) id⟩)
 ·rcases Nat.lt_or_eq_of_le hij with hlt|rfl
  ·have:=Nl h3 hlt hx hy
   simp only[Bool.and_eq_true]at this
   simpa using List.all_eq_true.1 this.2 o ho
  ·rw[hx]at hy;simp at hy;subst hy
   have:=List.all_eq_true.1 h4 x (List.mem_of_getElem? hx)
   simpa using List.all_eq_true.1 this o ho

theorem uQ {k e:Nat}(hlen:xs.length=ops.size) (he:e∈II ops k):k<xs.length:=by
 unfold II at he
 split at he
 ·rename_i o ho;rw[hlen];exact(Array.getElem?_eq_some_iff.1 ho).1
 ·simp at he

structure ZO (ops:Array Oper) (xs:List A7) (L:Nat->Prop) (i:Nat) (x:A7):Prop where
 at_:xs[i]? =some x
 not:¬L i
 II:∀e∈II ops i,L e

variable {I0 I:AZ}{w0 w:World}{a0 a:Act}{L:Nat->Prop}{i:Nat}{x:A7}

theorem dV (D:Xo ops xs ap) (hlen:xs.length=ops.size) (V:Inv n lo base ops xs S U I0 w0 a0 L I w a) (R:ZO ops xs L i x) {j:Nat}(hj:j<xs.length):
 (ord (masks ops xs.length) j i=true->L j)/\(ord (masks ops xs.length) i j=true->¬L j):=by
 have hi:i<xs.length:=(List.getElem?_eq_some_iff.1 R.at_).1
 have lt:∀k e,e∈II ops k->e<k:=fun k e he=>D.lt k e he (uQ hlen he)
 constructor
 ·intro h
  unfold ord at h
  rw[IA ops _ _ hi]at h
  exact(KL V.down lt i R.II j h).1
 ·intro h hL
  unfold ord at h
  rw[IA ops _ _ hj]at h
  exact R.not (KL V.down lt j (V.down j hL) i h).1

theorem Rb (D:Xo ops xs ap) (hlen:xs.length=ops.size) (V:Inv n lo base ops xs S U I0 w0 a0 L I w a) (R:ZO ops xs L i x) {j:Nat}{y:A7}(hy:xs[j]? =some y) (hji:j≠i)
 (hm:if j<i then must y x=true else must x y=true):L j↔j<i:=by
 have hj:j<xs.length:=(List.getElem?_eq_some_iff.1 hy).1
 obtain⟨o1,o2⟩:=dV D hlen V R hj
 by_cases hlt:j<i
 ·rw[if_pos hlt]at hm
  rcases D.pair j i y x hlt hy R.at_ with h|h
  ·exact⟨fun _=>hlt,fun _=>o1 h⟩
  ·rw[hm]at h;simp at h
 ·rw[if_neg hlt]at hm
  rcases D.pair i j x y (by omega) R.at_ hy with h|h
  ·exact⟨fun hL=>absurd hL (o2 h),fun e=>absurd e hlt⟩
  ·rw[hm]at h;simp at h

theorem Vl {d t:Nat}{l:List Nat}(hd:d∈l) (h:t=d):Lc (some t) l=true:=by subst h;simpa[Lc]using hd

theorem Rr (D:Xo ops xs ap) (hlen:xs.length=ops.size) (T:Text P lo base xs S U) (V:Inv n lo base ops xs S U I0 w0 a0 L I w a) (R:ZO ops xs L i x) {t:Nat}(ht:t∈x.rd):Ir xs S L t=(S i).1 t:=by
 have hi:i<xs.length:=(List.getElem?_eq_some_iff.1 R.at_).1
 refine IL (F:=fun k=>(S k).1 t) (W:=fun j=>Wt xs j t) (T.tmp (t:=t)) (by omega) ?_
 rintro j hj ⟨y,hy,hd⟩
 by_cases hji:j=i
 ·subst hji
  exact⟨fun h=>absurd h R.not,fun h=>by omega⟩
 ·refine Rb D hlen V R hy hji ?_
  split
  ·simp[must,hd,Vl ht rfl]
  ·simp[must,hd,Vl ht rfl]

theorem gY {v:Value}(hv:In I v) {r:Nat}(hr:r∈A9 v):I.dom r:=by
 unfold A9 at hr
 split at hr
 ·simp at hr;subst hr;simp only[In]at hv;exact BK hv
 ·split at hr
  ·simp at hr
  ·rename_i hf
   simp at hr;subst hr;rw[Dp (Nat.not_le.1 hf)]at hv;exact BK hv.1
 ·simp at hr;subst hr;simp only[In]at hv;obtain⟨b,hb⟩:=hv;exact⟨_,_,hb⟩
 ·simp at hr

theorem ct {v:Value}(h:flat v=true):A9 v=[]:=by
 unfold A9
 split
 ·simp[flat]at h
 ·simp[flat]at h
 ·simp[flat]at h
 ·rfl

theorem XZ {ao:B9}(hins:x.ins= .op ao) {t:Nat}(ht:t∈ao.rd):t∈x.rd:=by
 simp[A7.rd,hins,ht]
theorem Np {ao:B9}(hins:x.ins= .op ao):x.Fi=ao.Fi/\x.RE=ao.RE:=by simp[A7.Fi,A7.RE,hins]

theorem VK (D:Xo ops xs ap) (hlen:xs.length=ops.size) (T:Text P lo base xs S U) (V:Inv n lo base ops xs S U I0 w0 a0 L I w a) (R:ZO ops xs L i x) {ao:B9}(hins:x.ins= .op ao) {r:Nat}(hr:r∈ao.touch (S i).1):I.dom r:=by
 rw[Nn,E9,List.mem_flatMap]at hr
 obtain⟨o,ho,hr⟩:=hr
 have ho':o∈x.Fi:=by rw[(Np hins).1];exact ho
 cases o with
 | c v=>
   have:=D.const i x R.at_ _ ho'
   simp only[W5]at this
   simp only[ev,ct this]at hr
   simp at hr
 |m k nm=>simp[ev,A9]at hr
 | t k=>
   have hk:Ir xs S L k=(S i).1 k:=Rr D hlen T V R (XZ hins (rX ho k (by simp[BH.rd])))
   simp only[ev]at hr
   rw[<-hk]at hr
   exact gY (V.ts.2 k).2 hr

theorem Y9 (D:Xo ops xs ap) (T:Text P lo base xs S U) {j:Nat}{y:A7}(hy:xs[j]? =some y) {o:BH}(ho:o∈y.Fi):ev (S j).1 o=ev (S xs.length).1 o:=by
 have hj:j<xs.length:=(List.getElem?_eq_some_iff.1 hy).1
 cases o with
 |c v=>rfl
 | m k nm=>
   have:=stays (F:=fun l=>(S l).1 k) (W:=fun l=>Wt xs l k) (m:=xs.length) (T.tmp (t:=k)) (a:=j) (xs.length - j) (by omega) (fun l h1 h2=>?_)
   ·rw[show j+(xs.length - j)=xs.length by omega]at this
    simp only[ev,this]
   ·rintro⟨z,hz,hd⟩
    have:=D.keep j l y z h1 hy hz _ ho
    rw[hd]at this
    simp[Lc,BH.rd]at this
 | t k=>
   have:=stays (F:=fun l=>(S l).1 k) (W:=fun l=>Wt xs l k) (m:=xs.length) (T.tmp (t:=k)) (a:=j) (xs.length - j) (by omega) (fun l h1 h2=>?_)
   ·rw[show j+(xs.length - j)=xs.length by omega]at this
    exact this.symm
   ·rintro⟨z,hz,hd⟩
    have:=D.keep j l y z h1 hy hz _ ho
    rw[hd]at this
    simp[Lc,BH.rd]at this

theorem Ow {x y:BH}(h:K7 x y=true):x=y:=by
 unfold K7 at h
 split at h
 ·simp at h;subst h;rfl
 ·simp at h

theorem Zu (D:Xo ops xs ap) (T:Text P lo base xs S U) (hap:∀p∈ap,∀r∈A9 (ev (S xs.length).1 p.1),r∉A9 (ev (S xs.length).1 p.2)) {j k:Nat}{y z:A7}(hy:xs[j]? =some y) (hz:xs[k]? =some z)
 (hc:∀p∈clash xs j k y z,Rm ap p=true) {r:Nat} (h:(r∈E9 (S j).1 (qI xs j y)/\r∈E9 (S k).1 z.Fi)\/(r∈E9 (S j).1 y.Fi/\r∈E9 (S k).1 (qI xs k z))) (hw:∀(j:Nat) (y:A7) (o:BH),o∈qI xs j y->o∈y.Fi):False:=by
 have key:∀o1 o2,o1∈y.Fi->o2∈z.Fi->(o1,o2)∈clash xs j k y z->r∈A9 (ev (S j).1 o1)->r∈A9 (ev (S k).1 o2)->False:=by
  intro o1 o2 h1 h2 hm r1 r2
  have:=hc _ hm
  unfold Rm at this
  rw[List.any_eq_true]at this
  obtain⟨q,hq,he⟩:=this
  simp only[Bool.and_eq_true]at he
  have e1:=Ow he.1
  have e2:=Ow he.2
  rw[Y9 D T hy h1,<-e1]at r1
  rw[Y9 D T hz h2,<-e2]at r2
  exact hap q hq r r1 r2
 rcases h with⟨h1,h2⟩|⟨h1,h2⟩<;>rw[E9,List.mem_flatMap]at h1 h2<;>obtain⟨o1,m1,h1⟩:=h1<;>obtain⟨o2,m2,h2⟩:=h2
 ·refine key o1 o2 (hw j y o1 m1) m2 ?_ h1 h2
  simp only[clash,Rf,List.mem_append,List.mem_flatMap,List.mem_map]
  exact .inl ⟨o1,m1,o2,m2,rfl⟩
 ·refine key o1 o2 m1 (hw k z o2 m2) ?_ h1 h2
  simp only[clash,Rf,List.mem_append,List.mem_flatMap,List.mem_map]
  exact .inr ⟨o1,m1,o2,m2,rfl⟩

theorem qZ (y:A7) (o:BH) (h:o∈y.RE):o∈y.Fi:=by
 unfold A7.RE at h
 unfold A7.Fi
 split at h
 ·exact Xy h
 ·simp at h

theorem dG (j:Nat) (y:A7) (o:BH) (h:o∈qI xs j y):o∈y.Fi:=by
 unfold qI at h
 split at h
 ·simp at h
 ·exact qZ y o h

theorem XH {j:Nat}{y:A7}{s s':Ts × H}{u:Option (Nat × BQ)}(hs:HV P lo base j y s u s') {r:Nat}{row:BQ}(hu:u=some (r,row)):r=base+j\/(lo<=r/\r∈E9 s.1 y.RE/\s.2.get r≠none):=by
 cases hs with
 |skip=>simp at hu
 |call=>simp at hu
 | op ts h ao v u hg hins h2 h3=>
   rcases h2 r row hu with e|e
   ·exact .inl e
   ·refine .inr ⟨e.1,?_,e.2.2⟩
    rw[(Np hins).2]
    exact dF e.2.1

theorem XP {ts:Ts}{a b:Option BH}(h:XQ a b=true):∃x y:BH,a=some x/\b=some y/\C9 (ev ts x)=C9 (ev ts y):=by
 unfold XQ at h
 split at h
 ·split at h
  ·obtain rfl:=Nat.eq_of_beq_eq_true h
   exact⟨_,_,rfl,rfl,by simp[ev,C9]⟩
  ·simp at h
 ·obtain rfl:=Nat.eq_of_beq_eq_true h
  exact⟨_,_,rfl,rfl,rfl⟩
 ·simp at h
theorem GC {c sz:Nat}{a:Addr}{lo hi:Option Nat}{v:Value}:(a.spot=none->Ee enc1 c sz a lo hi hi=some v->Jg v=true)/\((∃g,a.spot=some g)->Ee enc2 c sz a lo hi hi=some v->Jg v=true):=by
 have hs:∀l m,(Dy a l m sz).spot=a.spot:=fun l m=>by unfold Dy;split<;>rfl
 cases lo with
 |none=>exact⟨fun _ h=>by simp[Ee]at h,fun _ h=>by simp[Ee]at h⟩
 | some l=>cases hi with
   |none=>exact⟨fun _ h=>by simp[Ee]at h,fun _ h=>by simp[Ee]at h⟩
   | some m=>
     refine⟨fun h0 h=>?_,fun⟨g,h0⟩ h=>?_⟩
     all_goals
      simp only[Ee]at h
      split at h
      ·rename_i hc
       simp only[Option.some.injEq]at h
       subst h
       have hf:=hc.2.2.2
       simp only[Jg,hs,h0,if_neg (Nat.not_le.2 hf)]
       exact Nat.beq_refl _
      ·simp at h
theorem Z9 {ts:Ts}{n sz:Nat}{x:BH}{lo hi mx:Option BH}{v:Value}(hh:XQ hi mx=true) (h:Ls n sz (KU ts lo) (KU ts hi) (KU ts mx) (ev ts x)=some v):Jg v=true:=by
 obtain⟨p,q,rfl,rfl,e⟩:=XP (ts:=ts) hh
 unfold Ls at h
 split at h
 ·rename_i a ha
  simp only[KU,CM,Option.map_some]at h
  first
   | (rw[e]at h
      cases hsp:a.spot with
      |none=>rw[hsp]at h;exact(GC).1 hsp h
      |some g=>rw[hsp]at h;exact(GC).2 ⟨g,hsp⟩ h)
 ·simp at h
theorem iA {ts:Ts}{sz:Nat}{x:BH}{lo hi mx:Option BH}{v:Value}(hh:XQ hi mx=true) (h:HL sz (KU ts lo) (KU ts hi) (KU ts mx) (ev ts x)=some v):Jg v=true\/A9 v=[]:=by
 obtain⟨p,q,rfl,rfl,e⟩:=XP (ts:=ts) hh
 unfold HL at h
 split at h
 ·rename_i a len cap ha
  split at h
  ·split at h
   ·left
    unfold lW at h
    split at h
    ·split at h
     ·simp only[Option.some.injEq]at h;subst h;simp[Jg]
     ·simp at h
    ·simp at h
   ·simp at h
  ·left
   simp only[KU,CM,Option.map_some]at h
   split at h
   ·rename_i hsp
    rw[e]at h
    exact(GC).1 hsp h
   ·rename_i g hsp
    unfold R5 at h
    simp only[CM]at h
    split at h
    ·rw[e]at h;exact(GC).2 ⟨g,hsp⟩ h
    ·rw[e]at h;exact(GC).2 ⟨g,hsp⟩ h
 ·right
  unfold lV at h
  split at h
  ·split at h
   ·simp only[Option.some.injEq]at h;subst h;rfl
   ·simp at h
  ·simp at h
 ·simp at h
theorem t8 (T:Text P lo base xs S U) {j:Nat}{y:A7}(hj:j<xs.length) (hf:WJ xs j y=true) {ao:B9}(hins:y.ins= .op ao):ao.wr (S j).1=[]:=by
 unfold WJ at hf
 split at hf
 ·rename_i e sz b t x hy
  rw[hins]at hy
  simp only[Qh.op.injEq]at hy
  subst hy
  obtain⟨l,hl,hf⟩:=List.any_eq_true.1 hf
  simp only[Bool.and_eq_true]at hf
  obtain⟨hw,hall⟩:=hf
  have hl:l<j:=by simpa using hl
  split at hw
  ·rename_i w hwl
   unfold wA at hw
   simp only[Bool.and_eq_true,beq_iff_eq,Option.isNone_iff_eq_none]at hw
   obtain⟨⟨hd,hg⟩,hk⟩:=hw
   have hs:=T.step l w hwl
   have stay:(S j).1 t=(S (l+1)).1 t:=by
    have key:∀d,l+1+d<=j->(S (l+1+d)).1 t=(S (l+1)).1 t:=by
     intro d
     induction d with
     |zero=>intro _;rfl
     | succ d ih=>
       intro hle
       rw[<-ih (by omega)]
       refine T.tmp (t:=t) (l+1+d) (by omega) ?_
       rintro⟨z,hz,hzd⟩
       have:=List.all_eq_true.1 hall (l+1+d) (by simp;omega)
       rw[hz]at this
       simp only[Bool.or_eq_true,decide_eq_true_eq,hzd,beq_self_eq_true,Bool.not_true,Bool.false_eq_true,or_false]at this
       omega
    have:=key (j - (l+1)) (by omega)
    rwa [show l+1+(j - (l+1))=j by omega]at this
   have val:Jg ((S (l+1)).1 t)=true\/A9 ((S (l+1)).1 t)=[]:=by
    generalize S l=s at hs
    generalize hs':S (l+1)=s' at hs
    generalize U l=u0 at hs
    cases hs with
    |skip ts h hn=>rw[hg]at hn;simp[CN]at hn
    |call ts h f args v h' _ hi _=>rw[hi]at hk;simp at hk
    | op ts h ao v u _ hi _ h3=>
      have ha:=h3 h (fun _ _ _=>rfl)
      rw[hi]at hk
      have hput:G0 ts v w.dst t=v:=by rw[hd];simp[G0,JU]
      simp only[hput]
      split at hk
      ·rename_i hi2
       simp only[Qh.op.injEq]at hi2
       subst hi2
       simp only[C6]at ha
       exact .inl (Z9 hk (Bi ha).1)
      ·rename_i hi2
       simp only[Qh.op.injEq]at hi2
       subst hi2
       simp only[C6]at ha
       exact iA hk (Bi ha).1
      ·simp at hk
   simp only[B9.wr,ev,stay]
   rcases val with h|h
   ·rw[if_pos h]
   ·rw[h];simp
  ·simp at hw
 ·simp at hf
theorem iw (T:Text P lo base xs S U) {j:Nat}{y:A7}(hj:j<xs.length) {s':Ts × H}{u:Option (Nat × BQ)}(hs:HV P lo base j y (S j) u s') {r:Nat}{row:BQ}(hu:u=some (r,row)):r=base+j\/(lo<=r/\r∈E9 (S j).1 (qI xs j y)/\(S j).2.get r≠none):=by
 rcases XH hs hu with e|e
 ·exact .inl e
 ·by_cases hf:WJ xs j y=true
  ·left
   generalize hsj:S j=s at hs
   cases hs with
   |skip=>simp at hu
   |call=>simp at hu
   | op ts h ao v u hg hins h2 h3=>
     rcases h2 r row hu with e|e
     ·exact e
     ·have:=t8 T hj hf hins
      rw[hsj]at this
      simp only at this
      rw[this]at e
      simp at e
  ·right
   unfold qI
   rw[if_neg hf]
   exact e

theorem JM {i j:Nat}{x y:A7}(h:NT xs i j x y=true):∃kt z m k z',x.ins= .op (.lookup kt z false m k)/\y.ins= .op (.H4 kt z' m k)/\z=z'/\i<j/\∀l,i<=l->l<j->∃w,xs[l]? =some w/\w.RE=[]/\w.Ua=false/\Lc w.dst (m.rd++k.rd)=false:=by
 unfold NT at h
 split at h
 ·rename_i kt z ok m k kt' z' m' k' hx hy
  simp only[Bool.and_eq_true,Bool.not_eq_true',decide_eq_true_eq]at h
  obtain⟨⟨⟨⟨⟨⟨h1,h2⟩,h3⟩,h4⟩,h5⟩,h6⟩,h7⟩:=h
  subst h1
  obtain rfl:=Nat.eq_of_beq_eq_true h2
  obtain rfl:=Ow h4
  obtain rfl:=Ow h5
  refine⟨kt,z,m,k,z',hx,hy,cC h3,h6,fun l hl hj=>?_⟩
  have:=List.all_eq_true.1 h7 l (by simpa using hj)
  simp only[Bool.or_eq_true,decide_eq_true_eq]at this
  rcases this with h|h
  ·omega
  ·split at h
   ·rename_i w hw
    simp only[Bool.and_eq_true,Bool.not_eq_true',List.isEmpty_iff]at h
    exact⟨w,hw,h.1.1,h.1.2,h.2⟩
   ·simp at h
 ·simp at h

theorem Sk (D:Xo ops xs ap) (hlen:xs.length=ops.size) (T:Text P lo base xs S U) (V:Inv n lo base ops xs S U I0 w0 a0 L I w a) (R:ZO ops xs L i x)
 (hap:∀p∈ap,∀r∈A9 (ev (S xs.length).1 p.1),r∉A9 (ev (S xs.length).1 p.2)) {r:Nat} (hd:I.dom r) (hr:(S i).2.get r≠none) (hk:x.Ua=true\/r∈E9 (S i).1 x.Fi):
 ∀j,j<xs.length->Wr xs S U j r->(L j↔j<i)\/∃y,xs[j]? =some y/\i<j/\NT xs i j x y=true:=by
 have hi:i<xs.length:=(List.getElem?_eq_some_iff.1 R.at_).1
 intro j hj hw
 by_cases hji:j=i
 ·subst hji
  exact .inl ⟨fun h=>absurd h R.not,fun h=>by omega⟩
 rcases hw with⟨row,hu⟩|⟨y,hy,hc, -,hn⟩
 ·obtain⟨y,hy,hs⟩:=T.at_ hj
  rcases iw T hj hs hu with e|⟨-,hwr, -⟩
  ·have hlt:j<i:=by
    rcases Nat.lt_or_ge j i with h|h
    ·exact h
    ·exact absurd (T.own' hj i h) (by rw[<-e];exact hr)
   exact .inl ⟨fun _=>hlt,fun _=>V.own j hj (e▸hd)⟩
  ·have hne:y.RE≠[]:=fun e=>by simp[qI,e,E9]at hwr
   rcases hk with hk|hk
   ·refine .inl (Rb D hlen V R hy hji ?_)
    split<;>simp[must,hk,hne]
   ·obtain⟨o1,o2⟩:=dV D hlen V R hj
    rcases Nat.lt_or_ge j i with hlt|hge
    ·rcases D.pair j i y x hlt hy R.at_ with h|h
     ·exact .inl ⟨fun _=>hlt,fun _=>o1 h⟩
     ·rcases h.2 with h|h
      ·exact(Zu D T hap hy R.at_ h (.inl ⟨hwr,hk⟩) dG).elim
      ·obtain⟨kt,z,m,k,z',hy', -⟩:=JM h
       exact absurd (by simp[A7.RE,hy',B9.RE]) hne
    ·rcases D.pair i j x y (by omega) R.at_ hy with h|h
     ·exact .inl ⟨fun hL=>absurd hL (o2 h),fun e=>by omega⟩
     ·rcases h.2 with h|h
      ·exact(Zu D T hap R.at_ hy h (.inr ⟨hk,hwr⟩) dG).elim
      ·exact .inr ⟨y,hy,by omega,h⟩
 ·have hlt:j<i:=by
   rcases Nat.lt_or_ge j i with h|h
   ·exact h
   ·exact absurd (T.clean' (k:=i) (by omega) r (Nat.le_trans (T.Mx h (by omega)) hn)) hr
  refine .inl ⟨fun _=>hlt,fun _=>?_⟩
  by_cases hL:L j
  ·exact hL
  ·have:=V.calls j y hy hc hL r hd
   omega
theorem dU (D:Xo ops xs ap) (hlen:xs.length=ops.size) (T:Text P lo base xs S U) (V:Inv n lo base ops xs S U I0 w0 a0 L I w a) (R:ZO ops xs L i x) (hnl:x.kM=false)
 (hap:∀p∈ap,∀r∈A9 (ev (S xs.length).1 p.1),r∉A9 (ev (S xs.length).1 p.2)) {r:Nat} (hd:I.dom r) (hr:(S i).2.get r≠none) (hk:x.Ua=true\/r∈E9 (S i).1 x.Fi):
 ∀j,j<xs.length->Wr xs S U j r->(L j↔j<i):=fun j hj hw=>(Sk D hlen T V R hap hd hr hk j hj hw).resolve_right fun⟨y,_,_,h⟩=>by
 obtain⟨kt,z,m,k,z',hx, -⟩:=JM h
 simp[A7.kM,hx]at hnl

theorem pB (D:Xo ops xs ap) (hlen:xs.length=ops.size) (T:Text P lo base xs S U) (V:Inv n lo base ops xs S U I0 w0 a0 L I w a) (R:ZO ops xs L i x)
 (hap:∀p∈ap,∀r∈A9 (ev (S xs.length).1 p.1),r∉A9 (ev (S xs.length).1 p.2)) {kt:TypeId} {z v:Value} {ok:Bool} {m k:BH} (hins:x.ins= .op (.lookup kt z ok m k))
 (hv:DV P kt z ok (ev (S i).1 k) (S i).2 (ev (S i).1 m)=some v):DV P kt z ok (ev (S i).1 k) (Fv xs S U L) (ev (S i).1 m)=some v:=by
 have hi:i<xs.length:=(List.getElem?_eq_some_iff.1 R.at_).1
 have htd:=VK D hlen T V R hins (r:=0)
 cases hm:ev (S i).1 m with
 | map b =>
   cases b with
   |none=>rw[hm]at hv;exact hv
   | some r =>
     have hd:I.dom r:=VK D hlen T V R hins (by simp[B9.touch,hm,A9])
     have ht:r∈E9 (S i).1 x.Fi:=by simp[A7.Fi,hins,B9.Fi,E9,hm,A9]
     rw[hm]at hv
     have hr:(S i).2.get r≠none:=fun e=>by simp[DV,e]at hv
     by_cases hB:∃j y,j<xs.length/\L j/\Wr xs S U j r/\xs[j]? =some y/\NT xs i j x y=true
     ·obtain⟨j,y,hj,hL,hW,hy,hb⟩:=hB
      obtain⟨kt',z1,m',k',z',hx',hy',hzz,hij,bN⟩:=JM hb
      rw[hins]at hx'
      simp only[Qh.op.injEq,B9.lookup.injEq]at hx'
      obtain⟨rfl,rfl,rfl,rfl,rfl⟩:=hx'
      subst hzz
      have tK:ver (fun j=>L j/\Wr xs S U j r) xs.length=j+1:=by
       refine QY hj hW hL ?_
       intro l hl hjl hwl hLl
       rcases Sk D hlen T V R hap hd hr (.inr ht) l hl hwl with h|⟨y2,hy2, -,h⟩
       ·have:=h.1 hLl;omega
       ·obtain⟨_,_,_,_,_, -, -, -, -,hb2⟩:=JM h
        obtain⟨w2,hw2,e, -⟩:=hb2 j (by omega) hjl
        rw[hy]at hw2;simp at hw2;subst hw2
        simp[A7.RE,hy',B9.RE]at e
      have hsame:∀d,i+d<=j->(S (i+d)).2.get r=(S i).2.get r/\ev (S (i+d)).1 m=ev (S i).1 m/\ev (S (i+d)).1 k=ev (S i).1 k:=by
       intro d
       induction d with
       |zero=>intro _;exact⟨rfl,rfl,rfl⟩
       | succ d ih=>
         intro hd'
         obtain⟨i1,i2,i3⟩:=ih (by omega)
         obtain⟨w2,hw2,e1,e2,e3⟩:=bN (i+d) (by omega) (by omega)
         have hnw:¬Wr xs S U (i+d) r:=by
          rintro(⟨row,hu⟩|⟨y2,hy2,hc, -⟩)
          ·obtain⟨y2,hy2,hs⟩:=T.at_ (i:=i+d) (by omega)
           rw[hw2]at hy2;simp at hy2;subst hy2
           rcases XH hs hu with e|⟨-,h, -⟩
           ·exact absurd (T.own' (j:=i+d) (by omega) i (by omega)) (by rw[<-e];exact hr)
           ·simp[e1,E9]at h
          ·rw[hw2]at hy2;simp at hy2;subst hy2
           rw[e2]at hc;simp at hc
         have hev:∀o:BH,(∀t∈o.rd,t∈m.rd++k.rd)->ev (S (i+(d+1))).1 o=ev (S (i+d)).1 o:=by
          intro o ho
          refine FY fun t ht=>?_
          refine T.tmp (t:=t) (i+d) (by omega) ?_
          rintro⟨z2,hz2,hd2⟩
          rw[hw2]at hz2;simp at hz2;subst hz2
          rw[hd2]at e3
          have:=ho t ht
          simp only[Lc]at e3
          rw[List.contains_eq_mem,decide_eq_false_iff_not]at e3
          exact e3 this
         exact⟨(T.heap (r:=r) (i+d) (by omega) hnw).trans i1,(hev m (fun t ht=>by simp[ht])).trans i2,(hev k (fun t ht=>by simp[ht])).trans i3⟩
      obtain⟨s1,s2,s3⟩:=hsame (j - i) (by omega)
      rw[show i+(j - i)=j by omega]at s1 s2 s3
      have hstep:=T.step j y hy
      have hcur:(Fv xs S U L).get r=(S (j+1)).2.get r:=by simp only[Fv,tK]
      have hUj:∃row,U j=some (r,row):=by
       rcases hW with h|⟨y2,hy2,hc, -⟩
       ·exact h
       ·rw[hy]at hy2;simp at hy2;subst hy2
        simp[A7.Ua,hy']at hc
      obtain⟨row0,hUj⟩:=hUj
      generalize ha:S j=s at hstep
      generalize hb':S (j+1)=s' at hstep
      rw[hUj]at hstep
      cases hstep with
      | op ts h ao v' _ hg GM h2 h3=>
        rw[hy']at GM
        simp only[Qh.op.injEq]at GM
        subst GM
        have ha1:(S j).1=ts:=by rw[ha]
        have ha2:(S j).2=h:=by rw[ha]
        have hop:=h3 h fun _ _ _=>rfl
        rw[ha1]at s2 s3
        simp only[C6,s2,s3,hm]at hop
        rw[ha2]at s1
        have tQ:DV P kt z false (ev (S i).1 k) h (.map (some r))=some v:=by
         simp only[DV]at hv⊢
         rw[s1];exact hv
        cases hrow:h.get r with
        |none=>rw[s1]at hrow;exact absurd hrow hr
        | some row=>
          cases row with
          | map es c=>
            obtain⟨Adc,e1,e2⟩:=mS hrow tQ hop
            refine e2 _ ?_
            rw[hcur,hb']
            show(h.upd (some (r,row0))).get r=some Adc
            rw[e1];simp[H.put]
          |_=>simp[DV,hrow]at tQ
     ·have hgr:(Fv xs S U L).get r=(S i).2.get r:=by
       refine IL (F:=fun k=>(S k).2.get r) (W:=fun j=>Wr xs S U j r) (T.heap (r:=r)) (by omega) fun j hj hw=>?_
       rcases Sk D hlen T V R hap hd hr (.inr ht) j hj hw with h|⟨y,hy,hij,h⟩
       ·exact h
       ·exact⟨fun hL=>absurd ⟨j,y,hj,hL,hw,hy,h⟩ hB,fun e=>by omega⟩
      simp only[DV]at hv⊢
      rw[hgr];exact hv
 |_=>rw[hm]at hv;simp[DV]at hv

theorem fM (D:Xo ops xs ap) (hlen:xs.length=ops.size) (T:Text P lo base xs S U) (V:Inv n lo base ops xs S U I0 w0 a0 L I w a) (R:ZO ops xs L i x) (hnl:x.kM=false)
 (hap:∀p∈ap,∀r∈A9 (ev (S xs.length).1 p.1),r∉A9 (ev (S xs.length).1 p.2)) {r:Nat} (hd:I.dom r) (hr:(S i).2.get r≠none) (hk:x.Ua=true\/r∈E9 (S i).1 x.Fi):
 (Fv xs S U L).get r=(S i).2.get r:=by
 have hi:i<xs.length:=(List.getElem?_eq_some_iff.1 R.at_).1
 exact IL (F:=fun k=>(S k).2.get r) (W:=fun j=>Wr xs S U j r) (T.heap (r:=r)) (by omega) (dU D hlen T V R hnl hap hd hr hk)

def L1 (L:Nat->Prop) (i:Nat):Nat->Prop:=fun j=>L j\/j=i

theorem Vw {j:Nat}(h:j≠i):L1 L i j↔L j:=by simp[L1,h]

theorem fO (D:Xo ops xs ap) (hlen:xs.length=ops.size) (V:Inv n lo base ops xs S U I0 w0 a0 L I w a) (R:ZO ops xs L i x) {v:Value}(hv:(S (i+1)).1=G0 (S i).1 v x.dst):
 Ir xs S (L1 L i)=G0 (Ir xs S L) v x.dst:=by
 have hi:i<xs.length:=(List.getElem?_eq_some_iff.1 R.at_).1
 funext t
 by_cases hd:x.dst=some t
 ·have h1:ver (fun j=>L1 L i j/\Wt xs j t) xs.length=i+1:=by
   refine QY hi ⟨x,R.at_,hd⟩ (.inr rfl) ?_
   rintro j hj hij ⟨y,hy,hdy⟩ hL
   have hL:=(Vw (i:=i) (by omega)).1 hL
   have:=(Rb D hlen V R hy (by omega) (by rw[if_neg (by omega)];simp[must,hd,hdy])).1 hL
   omega
  simp only[Ir,h1,hv,hd,G0,JU,if_true]
 ·have h1:ver (fun j=>L1 L i j/\Wt xs j t) xs.length=ver (fun j=>L j/\Wt xs j t) xs.length:=by
   refine RH (i:=i) (W:=fun j=>Wt xs j t) ?_ (fun j hj=>Vw hj)
   rintro⟨y,hy,hdy⟩
   rw[R.at_]at hy;simp at hy;subst hy
   exact hd hdy
  rw[fX hd]
  simp only[Ir,h1]

theorem H.ext' {h g:H}(h1:∀r,h.get r=g.get r) (h2:h.next=g.next):h=g:=by
 cases h;cases g;simp only at h1 h2;subst h2;congr;funext r;exact h1 r

theorem uA (D:Xo ops xs ap) (hlen:xs.length=ops.size) (T:Text P lo base xs S U) (V:Inv n lo base ops xs S U I0 w0 a0 L I w a) (R:ZO ops xs L i x)
 (hap:∀p∈ap,∀r∈A9 (ev (S xs.length).1 p.1),r∉A9 (ev (S xs.length).1 p.2)) {u:Option (Nat × BQ)} (hU:U i=u) (hS:(S (i+1)).2=(S i).2.upd u)
 (hnc:x.Ua=true->CN (S i).1 x.guard=false)
 (hnl:x.kM=true->u=none)
 (h2:∀r row,u=some (r,row)->r=base+i\/(I.dom r/\r∈E9 (S i).1 x.Fi/\(S i).2.get r≠none)):Fv xs S U (L1 L i)=(Fv xs S U L).upd u:=by
 have hi:i<xs.length:=(List.getElem?_eq_some_iff.1 R.at_).1
 refine H.ext' (fun r=>?_) (by rw[Ln];rfl)
 by_cases hw:∃row,u=some (r,row)
 ·obtain⟨row,rfl⟩:=hw
  have h1:ver (fun j=>L1 L i j/\Wr xs S U j r) xs.length=i+1:=by
   refine QY hi (.inl ⟨row,hU⟩) (.inr rfl) ?_
   intro j hj hij hwj hL
   have hL:=(Vw (i:=i) (by omega)).1 hL
   rcases h2 r row rfl with e|⟨hd,ht,hr⟩
   ·rcases hwj with⟨row',hu'⟩|⟨y,hy,hc, -,hn⟩
    ·exact R.not (V.own i hi (e▸V.wrt j r row' hL hu' (by omega)))
    ·have:=T.room' (k:=j) (by omega)
     omega
   ·have Am7:x.kM=false:=by
     cases hq:x.kM with
     |false=>rfl
     |true=>exact absurd (hnl hq) (by simp)
    have:=(dU D hlen T V R Am7 hap hd hr (.inr ht) j hj hwj).1 hL
    omega
  simp only[Fv,h1,hS,H.upd,H.put,if_true]
 ·have h1:ver (fun j=>L1 L i j/\Wr xs S U j r) xs.length=ver (fun j=>L j/\Wr xs S U j r) xs.length:=by
   refine RH (i:=i) (W:=fun j=>Wr xs S U j r) ?_ (fun j hj=>Vw hj)
   rintro(⟨row,hu⟩|⟨y,hy,hc,hg,hn⟩)
   ·exact hw ⟨row,hU▸hu⟩
   ·rw[R.at_]at hy;simp at hy;subst hy
    rw[hnc hc]at hg;simp at hg
  have h3:((Fv xs S U L).upd u).get r=(Fv xs S U L).get r:=by
   cases u with
   |none=>rfl
   | some p=>
     simp only[H.upd,H.put]
     rw[if_neg]
     rintro rfl
     exact hw ⟨_,rfl⟩
  rw[h3]
  simp only[Fv,h1]

theorem nP (D:Xo ops xs ap) (hlen:xs.length=ops.size) (T:Text P lo base xs S U) (V:Inv n lo base ops xs S U I0 w0 a0 L I w a) (R:ZO ops xs L i x)
 (hap:∀p∈ap,∀r∈A9 (ev (S xs.length).1 p.1),r∉A9 (ev (S xs.length).1 p.2)) {u:Option (Nat × BQ)} {v:Value} (hU:U i=u) (hS:(S (i+1)).2=(S i).2.upd u) (hS1:(S (i+1)).1=G0 (S i).1 v x.dst)
 (hnc:x.Ua=true->CN (S i).1 x.guard=false) (hnl:x.kM=true->u=none)
 (h2:∀r row,u=some (r,row)->r=base+i\/(I.dom r/\r∈E9 (S i).1 x.Fi/\(S i).2.get r≠none))
 {J:AZ} {w1:World} (hg:CK I J w) (hdom:∀r,J.dom r->I.dom r\/r=base+i) (hold:∀r s p,r<lo->J.at_ r s=some p->I.at_ r s=some p) (hrel:Rel J ((Fv xs S U L).upd u) w1) (hin:In J v) (hext:Ext I lo w w1) (hdst:Md n x.dst=true):
 Inv n lo base ops xs S U I0 w0 a0 (L1 L i) J w1 (a.put x.dst (ren J v)):=by
 have hi:i<xs.length:=(List.getElem?_eq_some_iff.1 R.at_).1
 refine⟨?_,?_,?_,?_,?_,?_,?_,V.grows.trans hg V.ext.size,?_,fun r s p hr e=>V.old r s p hr (hold r s p hr e),V.ext.trans V.grows hext,?_⟩
 ·rintro j (h|rfl)
  ·exact V.lt j h
  ·exact hi
 ·rintro j (h|rfl) e he
  ·exact .inl (V.down j h e he)
  ·exact .inl (R.II e he)
 ·rw[fO D hlen V R hS1]
  exact(V.ts.le hg.le).put hin hdst
 ·rw[uA D hlen T V R hap hU hS hnc hnl h2]
  exact hrel
 ·intro j hj d
  rcases hdom _ d with d|d
  ·exact .inl (V.own j hj d)
  ·exact .inr (by omega)
 ·intro j y hy hc hL r d
  rcases hdom _ d with d|d
  ·exact V.calls j y hy hc (fun h=>hL (.inl h)) r d
  ·have:=T.room' (k:=j) (Nat.le_of_lt (List.getElem?_eq_some_iff.1 hy).1)
   omega
 ·rintro j r row (h|rfl) hu hne
  ·exact hg.le.dom (V.wrt j r row h hu hne)
  ·rw[hU]at hu
   rcases h2 r row hu with e|e
   ·exact absurd e hne
   ·exact hg.le.dom e.1
 ·intro r d
  rcases hdom r d with d|d
  ·exact V.dom r d
  ·exact .inr (by omega)
 ·rw[Act.Dt];exact V.defers

theorem nQ (D:Xo ops xs ap) (hlen:xs.length=ops.size) (T:Text P lo base xs S U) (V:Inv n lo base ops xs S U I0 w0 a0 L I w a) (R:ZO ops xs L i x)
 {v:Value} (hU:U i=none) (hS1:(S (i+1)).1=G0 (S i).1 v x.dst) (hc:x.Ua=true) (hgd:CN (S i).1 x.guard=true) {J:AZ} {w1:World} (W:Dk I J (S i).2.next (S i).2.next (S (i+1)).2 w w1) (hin:In J v) (hdst:Md n x.dst=true):
 Inv n lo base ops xs S U I0 w0 a0 (L1 L i) J w1 (a.put x.dst (ren J v)):=by
 have hi:i<xs.length:=(List.getElem?_eq_some_iff.1 R.at_).1
 have hroom:=T.room' (k:=i) (by omega)
 have Am9:=T.xR
 have ow:∀j y,xs[j]? =some y->y.Ua=true->j≠i->(L j↔j<i):=fun j y hy hcy hji=>Rb D hlen V R hy hji (by split<;>simp[must,hc,hcy])
 refine⟨?_,?_,?_,⟨?_,?_,W.rel.size,W.rel.base,W.rel.tabs,W.rel.inj,?_⟩,?_,?_,?_,V.grows.trans W.grows V.ext.size,?_,?_,V.ext.trans V.grows (W.ext.mono (by omega)),?_⟩
 ·rintro j (h|rfl)
  ·exact V.lt j h
  ·exact hi
 ·rintro j (h|rfl) e he
  ·exact .inl (V.down j h e he)
  ·exact .inl (R.II e he)
 ·rw[fO D hlen V R hS1]
  exact(V.ts.le W.grows.le).put hin hdst
 ·intro r row hr d
  rcases Nat.lt_or_ge r (S i).2.next with hlt|hge
  ·have d':I.dom r:=(W.dom r d).resolve_right (by omega)
   have h1:ver (fun j=>L1 L i j/\Wr xs S U j r) xs.length=ver (fun j=>L j/\Wr xs S U j r) xs.length:=by
    refine RH (i:=i) (W:=fun j=>Wr xs S U j r) ?_ (fun j hj=>Vw hj)
    rintro(⟨row,hu⟩|⟨y,hy, -, -,hn⟩)
    ·rw[hU]at hu;simp at hu
    ·omega
   simp only[Fv,h1]at hr
   refine(V.rel.rows r row hr d').le W.grows.le (fun s p e=>W.old r s p hlt e) (fun b ⟨s0,d0,hb⟩=>?_)
   refine W.ext.block b (V.rel.size _ _ _ _ hb) (fun r' s' d1 hb' hbase=>?_)
   rw[V.rel.inj _ _ _ _ _ _ _ hb' hb hbase]
   exact hlt
  ·have h1:ver (fun j=>L1 L i j/\Wr xs S U j r) xs.length=i+1:=by
    refine QY hi (.inr ⟨x,R.at_,hc,hgd,hge⟩) (.inr rfl) ?_
    intro j hj hij hwj hL
    have hL:=(Vw (i:=i) (by omega)).1 hL
    rcases hwj with⟨row',hu'⟩|⟨y,hy,hcy, -,hn⟩
    ·have:=V.calls i x R.at_ hc R.not r (V.wrt j r row' hL hu' (by omega))
     omega
    ·have:=(ow j y hy hcy (by omega)).1 hL
     omega
   simp only[Fv,h1]at hr
   exact W.rel.rows r row hr d
 ·intro r d
  have h1:=W.rel.lt r d
  have h2:=T.Mx (k:=i+1) (l:=xs.length) (by omega) (Nat.le_refl _)
  simp only[Fv]
  omega
 ·intro r hr
  simp only[Fv]at hr⊢
  have:=wR (fun j=>L1 L i j/\Wr xs S U j r) xs.length
  exact T.clean' this r (Nat.le_trans (T.Mx this (Nat.le_refl _)) hr)
 ·intro j hj d
  rcases W.dom _ d with d|d
  ·exact .inl (V.own j hj d)
  ·omega
 ·intro j y hy hcy hL r d
  have hji:j≠i:=fun e=>hL (.inr e)
  have hnL:¬L j:=fun h=>hL (.inl h)
  rcases W.dom r d with d'|d'
  ·exact V.calls j y hy hcy hnL r d'
  ·have hij:i<j:=by
    rcases Nat.lt_or_ge j i with h|h
    ·exact absurd ((ow j y hy hcy hji).2 h) hnL
    ·omega
   have h1:=W.rel.lt r d
   have h2:=T.Mx (k:=i+1) (l:=j) (by omega) (Nat.le_of_lt (List.getElem?_eq_some_iff.1 hy).1)
   omega
 ·rintro j r row (h|rfl) hu hne
  ·exact W.grows.le.dom (V.wrt j r row h hu hne)
  ·rw[hU]at hu;simp at hu
 ·intro r d
  rcases W.dom r d with d|d
  ·exact V.dom r d
  ·exact .inr (by omega)
 ·intro r s p hr e
  exact V.old r s p hr (W.old r s p (by omega) e)
 ·rw[Act.Dt];exact V.defers

theorem cS {ts ts':Ts}{g:Option (Nat × Bool)}(h:∀p,g=some p->ts' p.1=ts p.1):CN ts' g=CN ts g:=by
 cases g with
 |none=>rfl
 |some p=>simp only[CN,h p rfl]

def listed (arr:Array Bool) (j:Nat):Prop:=arr.getD j false=true

theorem FC {arr:Array Bool}(hi:i<arr.size):listed (arr.setIfInBounds i true)=L1 (listed arr) i:=by
 funext j
 simp only[listed,L1]
 by_cases hj:j=i
 ·subst hj;simp[hi]
 ·rw[getD_set_ne false (Ne.symm hj)];simp[hj]

theorem take_one (hx:DO P n ops ops.toList=some xs) (D:Xo ops xs ap) (T:Text P lo base xs S U) (hap:∀p∈ap,∀r∈A9 (ev (S xs.length).1 p.1),r∉A9 (ev (S xs.length).1 p.2))
 (V:Inv n lo base ops xs S U I0 w0 a0 L I w a) (R:ZO ops xs L i x) {K:Act->World->Prop} {Q:Exit->Act->World->Prop} (hK:∀J w1 a1,Inv n lo base ops xs S U I0 w0 a0 (L1 L i) J w1 a1->K a1 w1):
 wpOpIn (WR ro) 0 P ops Q i K a w:=by
 obtain⟨OQ,hget⟩:=C0 hx
 have hlen:xs.length=ops.size:=by rw[OQ];simp
 have hi:i<xs.length:=(List.getElem?_eq_some_iff.1 R.at_).1
 obtain⟨o,ho⟩:∃o,ops[i]? =some o:=⟨ops[i],Array.getElem?_eq_getElem (by omega)⟩
 obtain⟨x',hx',hxo⟩:=hget i o (by rw[Array.getElem?_toList];exact ho)
 rw[R.at_]at hx';simp at hx';subst hx'
 simp only[O9,Option.bind_eq_some_iff]at hxo
 obtain⟨gd,hgd,ins,hins,hxo⟩:=hxo
 split at hxo
 ·rename_i hok
  simp only[Bool.and_eq_true]at hok
  simp only[Option.some.injEq]at hxo
  have hdef:=Ji hins
  have hguard:x.guard=gd:=by rw[<-hxo]
  have hdst:x.dst=o.dst:=by rw[<-hxo]
  have oh:x.ins=ins:=by rw[<-hxo]
  have yK:Md n x.dst=true:=by rw[hdst];exact hok.2
  have hwant:CN (Ir xs S L) gd=CN (S i).1 gd:=cS fun p hp=>Rr D hlen T V R (by rw[A7.rd,hguard,hp];simp)
  have hw:=Gp V.ts hgd
  unfold wpOpIn
  simp only[ho]
  rw[hw,hwant]
  have hs:=T.step i x R.at_
  generalize ha:S i=s at hs
  generalize hb:S (i+1)=s' at hs
  generalize hu:U i=u at hs
  cases hs with
  | skip ts h hg=>
    rw[hguard]at hg
    simp only[hg,Bool.false_eq_true,if_false]
    refine⟨fun _ _=>trivial,?_⟩
    have hinv:=nP D hlen T V R hap (v:=undef) (J:=I) (w1:=w) hu (by rw[hb,ha];rfl) (by rw[hb,ha]) (fun _=>by rw[ha,hguard];exact hg) (fun _=>rfl) (by simp) (CK.refl I w) (fun _ d=>.inl d) (fun _ _ _ _ e=>e) V.rel (Dr I).2 (Ext.refl I lo w) yK
    rw[(Dr I).1,hdst]at hinv
    exact hK _ _ _ hinv
  | op ts h ao v u hg GM h2 h3=>
    rw[hguard]at hg
    simp only[hg,if_true]
    have oq:comp P o=some (.op ao):=by rw[hins,<-oh,GM]
    have hkn:ao.known=true:=by have:=hok.1;rw[<-oh,GM]at this;exact this
    have ha1:(S i).1=ts:=by rw[ha]
    have ha2:(S i).2=h:=by rw[ha]
    have hrd:∀t∈ao.rd,Ir xs S L t=ts t:=fun t ht=>by rw[<-ha1];exact Rr D hlen T V R (XZ GM ht)
    have hsel:ao.FV=true:=by have:=D.FV i x R.at_;rw[A7.FV,GM]at this;exact this
    have htd:∀r∈ao.touch ts,I.dom r:=fun r hr=>VK D hlen T V R GM (by rw[ha1];exact hr)
    have hto:∀r,r∈ao.touch ts->r∈E9 (S i).1 x.Fi:=fun r hr=>by rw[ha1,(Np GM).1,<-Nn];exact hr
    have hnone:x.kM=true->u=none:=fun hl=>by
     unfold A7.kM at hl
     rw[GM]at hl
     cases ao<;>simp at hl
     cases u with
     |none=>rfl
     | some p=>
       exfalso
       obtain⟨r,row⟩:=p
       rcases h2 r row rfl with e|⟨-,e, -⟩
       ·have h4:=h3 h fun _ _ _=>rfl
        have h5:=(Bi h4).2
        have h6:=T.own' hi i (Nat.le_refl _)
        rw[ha2,<-e]at h6
        have h7:(h.upd (some (r,row))).get r=some row:=by simp[H.upd,H.put]
        rw[h5,h6]at h7
        simp at h7
       ·simp[B9.wr]at e
    have Aeu:C6 P lo (base+i) ts (Fv xs S U L) ao=some (v,(Fv xs S U L).upd u):=by
     cases hl:x.kM with
     | false=>
       refine h3 _ fun r hr hne=>?_
       rw[<-ha2];exact fM D hlen T V R hl hap (htd r hr) (by rw[ha2];exact hne) (.inr (hto r hr))
     | true=>
       have hu0:=hnone hl
       subst hu0
       unfold A7.kM at hl
       rw[GM]at hl
       cases ao<;>simp at hl
       rename_i kt z ok m k
       have h4:=(Bi (h3 h fun _ _ _=>rfl)).1
       have h5:=pB D hlen T V R hap GM (v:=v) (by rw[ha1,ha2];exact h4)
       rw[ha1]at h5
       simp only[C6,AE.keep,h5,Option.map_some,H.upd]
    rw[<-Ach hsel hrd]at Aeu
    have hnd:¬I.dom (base+i):=fun d=>R.not (V.own i hi d)
    have hroom:=T.room' (k:=xs.length) (Nat.le_refl _)
    have Am9:=T.xR
    obtain⟨J,w1,nx,⟨hg',hdom,hold⟩,hrel,hin,hext,hrun,hnx⟩:=ah V.ts.ev oq hkn V.rel hnd (by simp only[Fv];omega) (by omega) Aeu
    refine IP (v:=ren J v) hdef hrun (hnx.imp id (fun e=>⟨e.1,by rw[e.2];exact(Dr J).1⟩)) ?_
    have hinv:=nP D hlen T V R hap hu (by rw[hb,ha2]) (by rw[hb,ha1]) (fun hc=>by simp[A7.Ua,GM]at hc) hnone (fun r row e=>(h2 r row e).imp id (fun e=>?_)) hg' hdom hold hrel hin hext yK
    ·rw[hdst]at hinv
     exact hK _ _ _ hinv
    ·have hwt:r∈ao.touch ts:=by
      have:=e.2.1
      have this:=dF this
      rw[E9,List.mem_flatMap]at this
      obtain⟨o',ho',hr'⟩:=this
      rw[Nn,E9,List.mem_flatMap]
      exact⟨o',Xy ho',hr'⟩
     exact⟨htd r hwt,hto r hwt,by rw[ha2];exact e.2.2⟩
  | call ts h f args v h' hg GM hcall=>
    have hg0:=hg
    rw[hguard]at hg
    simp only[hg,if_true]
    have oq:comp P o=some (.call f args):=by rw[hins,<-oh,GM]
    have ha1:(S i).1=ts:=by rw[ha]
    have ha2:(S i).2=h:=by rw[ha]
    have bJ:x.Ua=true:=by simp[A7.Ua,GM]
    have hrd:∀t∈f.rd++xu args,Ir xs S L t=ts t:=fun t ht=>by rw[<-ha1];exact Rr D hlen T V R (by simp only[A7.rd,GM,List.mem_append];exact .inr (by simpa using ht))
    have e1:ev (Ir xs S L) f=ev ts f:=FY fun t ht=>hrd t (by simp[ht])
    have e2:args.map (ev (Ir xs S L))=args.map (ev ts):=WX fun t ht=>hrd t (by simp[ht])
    obtain⟨c,hoc,hcf,hcas⟩:=MN oq
    obtain⟨ef,iF⟩:=hcf _ _ _ V.ts.ev
    rw[e1]at ef iF
    obtain⟨TS,Ub⟩:=Kq V.ts.ev hcas
    rw[e2]at TS Ub
    have hrel:Rel I h w:=by
     refine⟨fun r row hr d=>V.rel.rows r row ?_ d,fun r d=>?_,V.rel.size,V.rel.base,V.rel.tabs,V.rel.inj,?_⟩
     ·rw[fM D hlen T V R (by simp[A7.kM,GM]) hap d (by rw[ha2,hr];simp) (.inl bJ),ha2,hr]
     ·rw[<-ha2];exact V.calls i x R.at_ bJ R.not r d
     ·rw[<-ha2];exact T.clean' (by omega)
    refine hcall.run o c ro a I w _ Q hoc ef TS hrel iF Ub fun J w1 BZ hin=>?_
    have hinv:=nQ D hlen T V R hu (by rw[hb,ha1]) bJ (by rw[ha1];exact hg0) (by rw[hb,ha2];exact BZ) hin yK
    rw[hdst]at hinv
    exact hK _ _ _ hinv
 ·simp at hxo

def left (m:Nat) (arr:Array Bool):Nat:=((List.range m).filter fun j=>!arr.getD j false).length

theorem Yt {m:Nat}{arr:Array Bool}(hi:i<m) (hs:i<arr.size) (hn:arr.getD i false=false):left m (arr.setIfInBounds i true)<left m arr:=by
 unfold left
 have hsub:((List.range m).filter fun j=>!(arr.setIfInBounds i true).getD j false)=((List.range m).filter fun j=>!arr.getD j false).filter (fun j=>!(arr.setIfInBounds i true).getD j false):=by
  rw[List.filter_filter]
  apply List.filter_congr
  intro j _
  by_cases hj:j=i
  ·subst hj;simp[hs]
  ·rw[getD_set_ne false (Ne.symm hj)];simp
 rw[hsub]
 apply List.length_filter_lt_length_iff_exists.2
 refine⟨i,by simp[hi];simpa using hn,by simp[hs]⟩

theorem cT (hx:DO P n ops ops.toList=some xs) (D:Xo ops xs ap) (T:Text P lo base xs S U) (hap:∀p∈ap,∀r∈A9 (ev (S xs.length).1 p.1),r∉A9 (ev (S xs.length).1 p.2))
 {Q:Exit->Act->World->Prop} (hQ:∀J w1 a1,Inv n lo base ops xs S U I0 w0 a0 (fun j=>j<xs.length) J w1 a1->Q .normal a1 w1):
 ∀(fuel:Nat) (arr:Array Bool) (I:AZ) (w:World) (a:Act),arr.size=xs.length->left xs.length arr<=fuel->Inv n lo base ops xs S U I0 w0 a0 (listed arr) I w a->wpAnyIn (WR ro) 0 P .any ops Q fuel arr a w:=by
 obtain⟨OQ,hget⟩:=C0 hx
 have hlen:xs.length=ops.size:=by rw[OQ];simp
 have hdone:∀(arr:Array Bool) (I:AZ) (w:World) (a:Act),arr.size=xs.length->Inv n lo base ops xs S U I0 w0 a0 (listed arr) I w a->Region.ready .any ops arr=[]->Q .normal a w:=by
  intro arr I w a hsz V hr
  have hall:∀j,j<xs.length->listed arr j:=by
   intro j
   induction j using Nat.strongRecOn with
   | _ j ih=>
     intro hj
     by_cases hl:listed arr j
     ·exact hl
     ·exfalso
      have:j∈Region.ready .any ops arr:=by
       rw[mem_ready]
       refine⟨?_,ops[j],Array.getElem?_eq_getElem (by omega),fun e he hb=>?_⟩
       ·have h1:arr.getD j false=false:=by simpa[listed]using hl
        rw[Array.getD_eq_getD_getElem?,Array.getElem?_eq_getElem (by omega)]at h1⊢
        simpa using h1
       ·have hbe:e.on∈II ops j:=by
         unfold II
         rw[Array.getElem?_eq_getElem (by omega)]
         simp only[List.mem_map,List.mem_filter]
         exact⟨e,⟨by simpa using he,hb⟩,rfl⟩
        have hlt:=D.lt j _ hbe hj
        exact ih _ hlt (by omega)
      rw[hr]at this
      simp at this
  have hL:listed arr=fun j=>j<xs.length:=by
   funext j
   exact propext ⟨V.lt j,hall j⟩
  rw[hL]at V
  exact hQ _ _ _ V
 have Aei:∀(arr:Array Bool) (I:AZ) (w:World) (a:Act) (j:Nat),arr.size=xs.length->Inv n lo base ops xs S U I0 w0 a0 (listed arr) I w a->j∈Region.ready .any ops arr->∃y,ZO ops xs (listed arr) j y:=by
  intro arr I w a j hsz V hj
  rw[mem_ready]at hj
  obtain⟨h1,o,ho,h2⟩:=hj
  have hjs:j<ops.size:=(Array.getElem?_eq_some_iff.1 ho).1
  obtain⟨y,hy, -⟩:=hget j o (by rw[Array.getElem?_toList];exact ho)
  refine⟨y,hy,?_,fun e he=>?_⟩
  ·intro hl
   unfold listed at hl
   rw[Array.getD_eq_getD_getElem?,Array.getElem?_eq_getElem (by omega)]at h1 hl
   simp at h1 hl
   rw[hl]at h1;simp at h1
  ·unfold II at he
   rw[ho]at he
   simp only[List.mem_map,List.mem_filter]at he
   obtain⟨e',⟨he',hb⟩,rfl⟩:=he
   exact h2 e' (by simpa using he') hb
 intro fuel
 induction fuel with
 | zero=>
   intro arr I w a hsz hleft V
   have hnil:Region.ready .any ops arr=[]:=by
    cases hr:Region.ready .any ops arr with
    |nil=>rfl
    | cons j js=>
      exfalso
      obtain⟨y,R⟩:=Aei arr I w a j hsz V (by rw[hr];simp)
      have hj:j<xs.length:=(List.getElem?_eq_some_iff.1 R.at_).1
      have:=Yt (m:=xs.length) (arr:=arr) hj (by omega) (by simpa[listed]using R.not)
      omega
   exact⟨hnil,hdone arr I w a hsz V hnil⟩
 | succ fuel ih=>
   intro arr I w a hsz hleft V
   refine⟨hdone arr I w a hsz V,fun j hj=>?_⟩
   obtain⟨y,R⟩:=Aei arr I w a j hsz V hj
   have hjx:j<xs.length:=(List.getElem?_eq_some_iff.1 R.at_).1
   refine take_one hx D T hap V R (fun J w1 a1 V'=>?_)
   refine ih _ J w1 a1 (by simpa using hsz) ?_ ?_
   ·have:=Yt (m:=xs.length) (arr:=arr) hjx (by omega) (by simpa[listed]using R.not)
    omega
   ·rw[FC (by omega)]
    exact V'

end
end AE

/- A region that draws its order, as a rule. -/
namespace AE
open Go Go.RowKit

def Apart (ap:List (BH × BH)) (ts:Ts):Prop:=∀p∈ap,∀r∈A9 (ev ts p.1),r∉A9 (ev ts p.2)

theorem quiet_of {P:Program}{lo base:Nat}{xs:List A7}{S:Nat->Ts × H}{U:Nat->Option (Nat × BQ)}(step:∀i x,xs[i]? =some x->HV P lo base i x (S i) (U i) (S (i+1))) (room:base+xs.length<=(S 0).2.next) (xR:lo<=base):
 ∀k,k<=xs.length->Quiet lo (S 0).2 (S k).2
 |0,_=>Quiet.refl _ _
 | k+1,hk=>by
   have ih:=quiet_of step room xR k (by omega)
   have hs:=step k _ (List.getElem?_eq_getElem (by omega:k<xs.length))
   exact ih.trans (hs.quiet xR (by have:=ih.next;omega))

theorem J0 (w:Nat->Prop) (h:∀j,¬w j) (m:Nat):ver w m=0:=by
 rcases JZ w m with⟨h1, -⟩|⟨j, -, -,h1, -⟩
 ·exact h1
 ·exact absurd h1 (h j)

theorem WT.BN {tp:Bool}{P:Program}{n lo:Nat}{id:Nat}{ops:Array Oper}{xs:List A7}{ap:List (BH × BH)}{Q:Exit->Ts->H->Prop}{ts:Ts}{h:H}(hm:P.follows .mixedOrders=true) (hx:DO P n ops ops.toList=some xs) (hd:qO ops xs ap=true) (hlo:lo<=h.next)
 (hr:Run P lo true h.next 0 xs (fun ts' h'=>Apart ap ts'/\Q .normal ts' h') ts (h.bump xs.length)):WT (TC tp P (.region id ops true)) n lo Q ts h:=by
 have hlen:xs.length=ops.size:=by rw[(C0 hx).1];simp
 have D:=OY hd
 obtain⟨S,U,h0,hstep,hap,hQ⟩:=J3 xs 0 ts _ (fun x hx=>by obtain⟨i,hi,e⟩:=List.getElem_of_mem hx;exact D.FV i x (by rw[List.getElem?_eq_getElem hi,e])) hr
 have H5:∀i x,xs[i]? =some x->HV P lo h.next i x (S i) (U i) (S (i+1)):=fun i x hi=>by simpa using hstep i x hi
 have hroom:h.next+xs.length<=(S 0).2.next:=by rw[h0];exact Nat.le_refl _
 have hquiet:=quiet_of H5 hroom hlo xs.length (Nat.le_refl _)
 rw[h0]at hquiet
 refine⟨.normal,_,_,hQ,⟨Nat.le_trans (Nat.le_add_right _ _) hquiet.next,hquiet.same,fun hc=>hquiet.clean fun r hr=>hc r (Nat.le_trans (Nat.le_add_right _ _) hr)⟩,fun ro I w a k t _=>?_⟩
 refine wpIn_region_any hm ?_
 have T:Text P lo h.next xs S U:=⟨H5,hroom,by rw[h0];intro r hr;exact k.clean r (Nat.le_trans (Nat.le_add_right _ _) hr),by rw[h0];intro j _;exact k.clean _ (Nat.le_add_right _ _),hlo⟩
 have hno:∀j,¬listed (Array.replicate ops.size false) j:=by
  intro j hj
  unfold listed at hj
  rw[Array.getD_eq_getD_getElem?,Array.getElem?_replicate]at hj
  split at hj<;>simp at hj
 have yM:Ir xs S (listed (Array.replicate ops.size false))=ts:=by
  funext t
  unfold Ir
  rw[J0 _ (fun j hj=>hno j hj.1),h0]
 have oA:∀r,(Fv xs S U (listed (Array.replicate ops.size false))).get r=h.get r:=by
  intro r
  simp only[Fv]
  rw[J0 _ (fun j hj=>hno j hj.1),h0]
  rfl
 have kd:=k.drew
 refine cT (I0:=I) (w0:=w.drew) (a0:=a) hx D T hap (fun J w1 a1 V=>?_) ops.size _ I w.drew a (by simp[hlen]) ?_ ?_
 ·refine⟨rfl,J,⟨⟨V.grows.le,V.grows.new⟩,V.dom,V.old,?_,⟨V.ext.os,V.ext.tape,V.ext.output,V.ext.size,V.ext.block⟩⟩,?_,[],V.defers,Marks.nil _ _ _⟩
  ·refine⟨fun r row hr d=>V.rel.rows r row ?_ d,V.rel.lt,V.rel.size,V.rel.base,V.rel.tabs,V.rel.inj,?_⟩
   ·rw[<-hr]
    exact IL (F:=fun k=>(S k).2.get r) (W:=fun j=>Wr xs S U j r) (T.heap (r:=r)) (Nat.le_refl _) (fun j hj _=>by simp[hj])
   ·exact T.clean' (Nat.le_refl _)
  ·have:Ir xs S (fun j=>j<xs.length)=(S xs.length).1:=by
    funext t
    exact IL (F:=fun k=>(S k).1 t) (W:=fun j=>Wt xs j t) (T.tmp (t:=t)) (Nat.le_refl _) (fun j hj _=>by simp[hj])
   rw[<-this]
   exact V.ts
 ·unfold left
  rw[hlen]
  exact Nat.le_trans (List.length_filter_le _ _) (by simp)
 ·refine⟨fun j hj=>absurd hj (hno j),fun j hj=>absurd hj (hno j),by rw[yM];exact t,⟨fun r row hr d=>kd.rows r row (by rw[<-oA];exact hr) d,fun r d=>?_,kd.size,kd.base,kd.tabs,kd.inj,fun r hr=>?_⟩,fun j hj d=>?_,fun j y hy hc _ r d=>?_,fun j r row hj=>absurd hj (hno j),CK.refl _ _,fun r d=>.inl d,fun _ _ _ _ e=>e,Ext.refl _ _ _,rfl⟩
  ·have h1:=k.lt r d
   have h2:=hquiet.next
   simp only[Fv,H.bump]at h2⊢
   omega
  ·rw[oA]
   have h2:=hquiet.next
   simp only[Fv,H.bump]at hr h2
   exact k.clean r (by omega)
  ·have:=k.lt _ d
   omega
  ·have h1:=k.lt r d
   have h2:=T.room' (k:=j) (Nat.le_of_lt (List.getElem?_eq_some_iff.1 hy).1)
   omega

end AE

/- A region that draws its order, in which all that stands before a place is done before it, and what stands behind it is done one after the other: there calls may turn what was there. -/
namespace AE
open Go Go.RowKit

def pA (ops:Array Oper) (c:Nat):Bool:=
 let ms:=masks ops ops.size
 (List.range ops.size).all (fun i=>(II ops i).all (· <i))&&decide (c<ops.size)&&(List.range c).all (fun i=>ord ms i c)&&(List.range ops.size).all (fun j=>decide (j<=c)||ord ms (j - 1) j)

section
variable {P:Program}{ro:Option Nat}{n lo base c:Nat}{ops I6:Array Oper}{xs1:List A7}{ap:List (BH × BH)}{S:Nat->Ts × H}{U:Nat->Option (Nat × BQ)}

structure Cut (ops:Array Oper) (c:Nat):Prop where
 lt:∀i e,e∈II ops i->i<ops.size->e<i
 inn:c<ops.size
 first:∀i,i<c->ord (masks ops ops.size) i c=true
 chain:∀j,c<j->j<ops.size->ord (masks ops ops.size) (j - 1) j=true
theorem Zc (h:pA ops c=true):Cut ops c:=by
 simp only[pA,Bool.and_eq_true,decide_eq_true_eq]at h
 obtain⟨⟨⟨h1,h2⟩,h3⟩,h4⟩:=h
 refine⟨fun i e he hi=>?_,h2,fun i hi=>List.all_eq_true.1 h3 i (by simpa using hi),fun j h1 h2=>?_⟩
 ·have:=List.all_eq_true.1 h1 i (by simpa using hi)
  simpa using List.all_eq_true.1 this e he
 ·have:=List.all_eq_true.1 h4 j (by simpa using h2)
  simp only[Bool.or_eq_true,decide_eq_true_eq]at this
  exact this.resolve_left (by omega)

def Down (ops:Array Oper) (L:Nat->Prop):Prop:=∀i,L i->∀e∈II ops i,L e

theorem Cut.ready (C:Cut ops c) {L:Nat->Prop}(hL:Down ops L) {i j:Nat}(hj:j<ops.size) (hb:∀e∈II ops j,L e) (ho:ord (masks ops ops.size) i j=true):L i:=by
 have lt:∀k e,e∈II ops k->e<k:=fun k e he=>C.lt k e he (by
  unfold II at he
  split at he
  ·rename_i o ho;exact(Array.getElem?_eq_some_iff.1 ho).1
  ·simp at he)
 unfold ord at ho
 rw[IA ops _ _ hj]at ho
 exact(KL hL lt j hb i ho).1

theorem Ff {arr:Array Bool}{j:Nat}(hsz:arr.size=ops.size):j∈Region.ready .any ops arr↔j<ops.size/\¬listed arr j/\∀e∈II ops j,listed arr e:=by
 rw[mem_ready]
 constructor
 ·rintro⟨h1,o,ho,h2⟩
  have hj:=(Array.getElem?_eq_some_iff.1 ho).1
  refine⟨hj,fun hl=>?_,fun e he=>?_⟩
  ·unfold listed at hl
   rw[Array.getD_eq_getD_getElem?,Array.getElem?_eq_getElem (by omega)]at h1 hl
   simp at h1 hl
   rw[hl]at h1;simp at h1
  ·unfold II at he
   rw[ho]at he
   simp only[List.mem_map,List.mem_filter]at he
   obtain⟨e',⟨he',hb⟩,rfl⟩:=he
   exact h2 e' (by simpa using he') hb
 ·rintro⟨hj,h1,h2⟩
  refine⟨?_,ops[j],Array.getElem?_eq_getElem hj,fun e he hb=>?_⟩
  ·have h1:arr.getD j false=false:=by simpa[listed]using h1
   rw[Array.getD_eq_getD_getElem?,Array.getElem?_eq_getElem (by omega)]at h1⊢
   simpa using h1
  ·refine h2 e.on ?_
   unfold II
   rw[Array.getElem?_eq_getElem hj]
   simp only[List.mem_map,List.mem_filter]
   exact⟨e,⟨by simpa using he,hb⟩,rfl⟩

theorem Yu {m i:Nat}{arr:Array Bool}(hi:i<m) (hs:i<arr.size) (hn:arr.getD i false=false):left m (arr.setIfInBounds i true)+1=left m arr:=by
 have key:∀m,(i<m->left m (arr.setIfInBounds i true)+1=left m arr)/\(m<=i->left m (arr.setIfInBounds i true)=left m arr):=by
  intro m
  induction m with
  |zero=>exact⟨fun h=>by omega,fun _=>rfl⟩
  | succ m ih=>
    have hl:∀a:Array Bool,left (m+1) a=left m a+if a.getD m false then 0 else 1:=fun a=>by
     unfold left
     rw[List.range_succ,List.filter_append,List.length_append]
     congr 1
     simp only[List.filter_cons,List.filter_nil]
     cases a.getD m false<;>rfl
    rw[hl,hl]
    by_cases e:m=i
    ·subst e
     have h1:=ih.2 (Nat.le_refl _)
     have h2:(arr.setIfInBounds m true).getD m false=true:=by simp[hs]
     rw[h1,h2,hn]
     exact⟨fun _=>by simp,fun h=>by omega⟩
    ·have h2:(arr.setIfInBounds i true).getD m false=arr.getD m false:=getD_set_ne false (fun h=>e h.symm)
     rw[h2]
     refine⟨fun h=>?_,fun h=>?_⟩
     ·have:=ih.1 (by omega);omega
     ·have:=ih.2 (by omega);omega
 exact(key m).1 hi

theorem TA (C:Cut ops c) {Q:Exit->Act->World->Prop}:∀(m i:Nat) (arr:Array Bool) (a:Act) (w:World),c<=i->i+m=ops.size->arr.size=ops.size->(∀j,listed arr j↔j<i)->
 wpOpsIn (WR ro) 0 P ops Q (List.range' i m) a w->wpAnyIn (WR ro) 0 P .any ops Q m arr a w
 | 0,i,arr,a,w,hc,hi,hsz,hl,hw=>by
   refine⟨?_,by simpa[wpOpsIn]using hw⟩
   cases hr:Region.ready .any ops arr with
   |nil=>rfl
   | cons j js=>
     exfalso
     have:=(Ff hsz).1 (show j∈Region.ready .any ops arr by rw[hr];simp)
     exact this.2.1 ((hl j).2 (by omega))
 | m +1,i,arr,a,w,hc,hi,hsz,hl,hw=>by
   have Qt:Down ops (listed arr):=fun k hk e he=>by
    have hk':=(hl k).1 hk
    exact(hl e).2 (by have:=C.lt k e he (by omega);omega)
   have hi':i∈Region.ready .any ops arr:=(Ff hsz).2 ⟨by omega,fun h=>by have:=(hl i).1 h;omega,fun e he=>(hl e).2 (C.lt i e he (by omega))⟩
   refine⟨fun hr=>by rw[hr]at hi';simp at hi',fun j hj=>?_⟩
   obtain⟨hj1,hj2,hj3⟩:=(Ff hsz).1 hj
   have hji:j=i:=by
    rcases Nat.lt_trichotomy j i with h|h|h
    ·exact absurd ((hl j).2 h) hj2
    ·exact h
    ·exfalso
     have:=C.ready Qt hj1 hj3 (C.chain j (by omega) hj1)
     have:=(hl _).1 this
     omega
   subst hji
   rw[List.range'_succ,wpOpsIn_cons]at hw
   have ih:=fun a w=>TA C (Q:=Q) m (j+1) (arr.setIfInBounds j true) a w (by omega) (by omega) (by simpa using hsz) (fun k=>by
    rw[FC (by omega)]
    simp only[L1,hl k]
    omega)
   exact wpOpIn_mono (fun a w h=>ih a w h) hw


theorem KM (arr:Array Bool) (j:Nat):listed arr j\/¬listed arr j:=by unfold listed;cases arr.getD j false<;>simp

theorem fY (C:Cut ops c) (hx:DO P n I6 I6.toList=some xs1) (hsz1:I6.size=c) (hsub:∀i,i<c->I6[i]? =ops[i]?) (D:Xo I6 xs1 ap) (T:Text P lo base xs1 S U) {I0:AZ}{w0:World}{a0:Act}
 (hap:∀p∈ap,∀r∈A9 (ev (S xs1.length).1 p.1),r∉A9 (ev (S xs1.length).1 p.2)) {Q:Exit->Act->World->Prop} {fuel2:Nat}
 (hQ:∀J w1 a1,Inv n lo base I6 xs1 S U I0 w0 a0 (fun j=>j<xs1.length) J w1 a1->∀arr:Array Bool,arr.size=ops.size->(∀j,listed arr j↔j<c)->wpAnyIn (WR ro) 0 P .any ops Q fuel2 arr a1 w1):
 ∀(fuel:Nat) (arr:Array Bool) (I:AZ) (w:World) (a:Act),arr.size=ops.size->(∀j,listed arr j->j<c)->left c arr=fuel->Inv n lo base I6 xs1 S U I0 w0 a0 (listed arr) I w a->wpAnyIn (WR ro) 0 P .any ops Q (fuel+fuel2) arr a w:=by
 obtain⟨OQ,hget⟩:=C0 hx
 have hlen:xs1.length=c:=by rw[OQ,<-hsz1];simp
 have hcs:=C.inn
 have hbef:∀i,i<c->II I6 i=II ops i:=fun i hi=>by unfold II;rw[hsub i hi]
 have hall:∀(arr:Array Bool),left c arr=0->∀j,j<c->listed arr j:=by
  intro arr hz j hj
  unfold left at hz
  rw[List.length_eq_zero_iff,List.filter_eq_nil_iff]at hz
  have:=hz j (by simpa using hj)
  unfold listed
  simpa using this
 intro fuel
 induction fuel with
 | zero=>
   intro arr I w a hsz hlt hl V
   rw[Nat.zero_add]
   have hL:listed arr=fun j=>j<xs1.length:=by
    funext j
    exact propext ⟨fun h=>by have:=hlt j h;omega,fun h=>hall arr hl j (by omega)⟩
   rw[hL]at V
   exact hQ I w a V arr hsz fun j=>⟨hlt j,fun h=>hall arr hl j h⟩
 | succ fuel ih=>
   intro arr I w a hsz hlt hl V
   rw[show fuel+1+fuel2=fuel+fuel2+1 by omega]
   have Qt:Down ops (listed arr):=fun i hi e he=>by
    have h1:=hlt i hi
    exact V.down i hi e (by rw[hbef i h1];exact he)
   -- one that is not listed, and ready
   have hex:∃j,j<c/\¬listed arr j:=by
    by_cases h:∃j,j<c/\¬listed arr j
    ·exact h
    ·exfalso
     have:left c arr=0:=by
      unfold left
      rw[List.length_eq_zero_iff,List.filter_eq_nil_iff]
      intro j hj
      rcases KM arr j with k|k
      ·unfold listed at k;simp only[k];simp
      ·exact absurd ⟨j,by simpa using hj,k⟩ h
     omega
   have hmin:∀j,j<c->¬listed arr j->∃j',j'<c/\j'∈Region.ready .any ops arr:=by
    intro j
    induction j using Nat.strongRecOn with
    | _ j ihj=>
      intro hj hn
      by_cases hb:∀e∈II ops j,listed arr e
      ·exact⟨j,hj,(Ff hsz).2 ⟨by omega,hn,hb⟩⟩
      ·have hb:∃e,e∈II ops j/\¬listed arr e:=by
        refine Classical.byContradiction fun h=>hb fun e he=>?_
        rcases KM arr e with k|k
        ·exact k
        ·exact absurd ⟨e,he,k⟩ h
       obtain⟨e,he,hne⟩:=hb
       have yH:=C.lt j e he (by omega)
       exact ihj e yH (by omega) hne
   refine⟨fun hr=>?_,fun j hj=>?_⟩
   ·obtain⟨j,hj,hn⟩:=hex
    obtain⟨j', -,h⟩:=hmin j hj hn
    rw[hr]at h;simp at h
   ·obtain ⟨hj1,hj2,hj3⟩:=(Ff hsz).1 hj
    have hjc:j<c:=by
     rcases Nat.lt_or_ge j c with h|h
     ·exact h
     ·exfalso
      have hc':listed arr c\/j=c:=by
       rcases Nat.lt_or_eq_of_le h with h|h
       ·left
        have:∀d,c<j - d->listed arr (j - d - 1):=by
         intro d
         induction d with
         |zero=>exact fun h=>C.ready Qt hj1 hj3 (C.chain j (by omega) hj1)
         | succ d ihd=>
           intro h'
           have h1:=ihd (by omega)
           have:=hlt _ h1
           omega
        have h1:=this 0 (by omega)
        have:=hlt _ h1
        omega
       ·exact .inr h.symm
      rcases hc' with h1|rfl
      ·have:=hlt _ h1;omega
      ·obtain⟨i,hi,hn⟩:=hex
       exact hn (C.ready Qt hj1 hj3 (C.first i hi))
    obtain⟨y,hy, -⟩:=hget j I6.toList[j] (List.getElem?_eq_getElem (by simp;omega))
    have R:ZO I6 xs1 (listed arr) j y:=⟨hy,hj2,fun e he=>hj3 e (by rw[<-hbef j hjc];exact he)⟩
    have h1:=take_one (ro:=ro) hx D T hap V R (K:=wpAnyIn (WR ro) 0 P .any ops Q (fuel+fuel2) (arr.setIfInBounds j true)) (Q:=Q) (fun J w1 a1 V'=>by
     refine ih _ J w1 a1 (by simpa using hsz) (fun k hk=>?_) ?_ ?_
     ·rw[FC (by omega)]at hk
      rcases hk with hk|rfl
      ·exact hlt k hk
      ·exact hjc
     ·have:=Yu (m:=c) (arr:=arr) hjc (by omega) (by simpa[listed]using hj2)
      omega
     ·rw[FC (by omega)]
      exact V')
    unfold wpOpIn at h1⊢
    rw[hsub j hjc]at h1
    obtain⟨o,ho⟩:∃o,ops[j]? =some o:=⟨ops[j],Array.getElem?_eq_getElem (by omega)⟩
    rw[ho]at h1⊢
    have hw:Region.wanted o (yielded I6 a.tmps)=Region.wanted o (yielded ops a.tmps):=by
     unfold Region.wanted
     cases hg:o.guard with
     |none=>rfl
     | some p=>
       obtain⟨i,b⟩:=p
       have ho1:I6[j]? =some o:=by rw[hsub j hjc,ho]
       obtain⟨x',hx',hxo⟩:=hget j o (by rw[Array.getElem?_toList];exact ho1)
       simp only[O9,P6,hg,Option.bind_eq_some_iff,Option.map_eq_some_iff]at hxo
       obtain⟨g,⟨d,⟨oi,hoi,hd⟩, -⟩, -⟩:=hxo
       have hi:i<c:=by have:=(Array.getElem?_eq_some_iff.1 hoi).1;omega
       simp only[yielded,hsub i hi]
    simp only[hw]at h1
    exact h1

theorem Mr {q:Bool}{K:Ts->H->Prop}{b k:Nat}:∀(xs:List A7) (i:Nat) (ts:Ts) (h:H),Run P lo q (b+k) i xs K ts h->Run P lo q b (k+i) xs K ts h
 |[],_,_,_,hr=>hr
 | x::xs,i,ts,h,hr=>by
   simp only[Run]at hr⊢
   rw[show b+(k+i)=b+k+i by omega,show k+i+1=k+(i+1) by omega]
   split
   ·rename_i hw
    rw[if_pos hw]at hr
    cases hi:x.ins with
    | op ao=>
      rw[hi]at hr
      obtain⟨v,h',ha,hr⟩:=hr
      exact⟨v,h',ha,Mr xs (i+1) _ _ hr⟩
    | call f args=>
      rw[hi]at hr
      obtain⟨v,h',ha,hr⟩:=hr
      exact⟨v,h',ha,Mr xs (i+1) _ _ hr⟩
   ·rename_i hw
    rw[if_neg hw]at hr
    exact Mr xs (i+1) _ _ hr

theorem WT.Abq {tp:Bool}{id:Nat}{xs:List A7}{Q:Exit->Ts->H->Prop}{ts:Ts}{h:H}(hm:P.follows .mixedOrders=true) (C:Cut ops c) (hx:DO P n ops ops.toList=some xs) (hsz1:I6.size=c) (hsub:∀i,i<c->I6[i]? =ops[i]?) (hx1:DO P n I6 I6.toList=some xs1)
 (hd:qO I6 xs1 ap=true) (hlo:lo<=h.next) (hr:Run P lo true h.next 0 xs1 (fun Iy h1=>Apart ap Iy/\Run P lo false h1.next 0 (xs.drop c) (Q .normal) Iy (h1.bump (xs.drop c).length)) ts (h.bump xs1.length)):WT (TC tp P (.region id ops true)) n lo Q ts h:=by
 have hlen1:xs1.length=c:=by rw[(C0 hx1).1,<-hsz1];simp
 have hlen:xs.length=ops.size:=by rw[(C0 hx).1];simp
 have hcs:=C.inn
 have D:=OY hd
 obtain⟨S,U,h0,hstep,hap,hrest⟩:=J3 xs1 0 ts _ (fun x hx=>by obtain⟨i,hi,e⟩:=List.getElem_of_mem hx;exact D.FV i x (by rw[List.getElem?_eq_getElem hi,e])) hr
 have H5:∀i x,xs1[i]? =some x->HV P lo h.next i x (S i) (U i) (S (i+1)):=fun i x hi=>by simpa using hstep i x hi
 have hroom:h.next+xs1.length<=(S 0).2.next:=by rw[h0];exact Nat.le_refl _
 have hquiet:=quiet_of H5 hroom hlo xs1.length (Nat.le_refl _)
 rw[h0]at hquiet
 have hq0:Quiet lo h (S xs1.length).2:=⟨Nat.le_trans (Nat.le_add_right _ _) hquiet.next,hquiet.same,fun hc=>hquiet.clean fun r hr=>hc r (Nat.le_trans (Nat.le_add_right _ _) hr)⟩
 have hnx:h.next+c<=(S xs1.length).2.next:=by have:=hquiet.next;simp only[H.bump]at this;omega
 -- the end
 obtain⟨b,hb⟩:∃b,b+c=(S xs1.length).2.next:=⟨(S xs1.length).2.next - c,by omega⟩
 rw[<-hb]at hrest
 have hrest':=Mr (b:=b) (k:=c) _ 0 _ _ hrest
 rw[Nat.add_zero]at hrest'
 have hdl:(xs.drop c).length=xs.length - c:=by simp
 obtain⟨ts',h',hK,hq,htail⟩:=Og hx (by omega) (xs.length - c) c (by omega) _ _ (by simp only[H.bump];omega) hrest'
 refine⟨.normal,ts',h',hK,hq0.trans ⟨Nat.le_trans (Nat.le_add_right _ _) hq.next,hq.same,fun hc=>hq.clean fun r hr=>hc r (Nat.le_trans (Nat.le_add_right _ _) hr)⟩,fun ro I w a k t _=>?_⟩
 refine wpIn_region_any hm ?_
 have T:Text P lo h.next xs1 S U:=⟨H5,hroom,by rw[h0];intro r hr;exact k.clean r (Nat.le_trans (Nat.le_add_right _ _) hr),by rw[h0];intro j _;exact k.clean _ (Nat.le_add_right _ _),hlo⟩
 have hno:∀j,¬listed (Array.replicate ops.size false) j:=by
  intro j hj
  unfold listed at hj
  rw[Array.getD_eq_getD_getElem?,Array.getElem?_replicate]at hj
  split at hj<;>simp at hj
 have yM:Ir xs1 S (listed (Array.replicate ops.size false))=ts:=by
  funext t
  unfold Ir
  rw[J0 _ (fun j hj=>hno j hj.1),h0]
 have oA:∀r,(Fv xs1 S U (listed (Array.replicate ops.size false))).get r=h.get r:=by
  intro r
  simp only[Fv]
  rw[J0 _ (fun j hj=>hno j hj.1),h0]
  rfl
 have kd:=k.drew
 have hfuel:ops.size=c+(ops.size - c):=by omega
 have hleft:left c (Array.replicate ops.size false)=c:=by
  unfold left
  rw[List.filter_eq_self.2]
  ·simp
  ·intro j _
   have:=hno j
   unfold listed at this
   simpa using this
 have main:=fY (ro:=ro) C hx1 hsz1 hsub D T (I0:=I) (w0:=w.drew) (a0:=a) hap (fuel2:=ops.size - c) (Q:=fun e' a' w'=>e'= .normal/\∃J,Dk I J lo h.next h' w w'/\Cu J n ts' a'.tmps/\∃ms,a'.defers=ms++a.defers/\Marks J w w' ms) (fun J w1 a1 V arr hsz hl=>?_) c (Array.replicate ops.size false) I w.drew a (by simp) (fun j hj=>absurd hj (hno j)) hleft ?_
 ·rw[hfuel]
  rw[hfuel]at main
  simpa using main
 ·refine TA C (ops.size - c) c arr a1 w1 (Nat.le_refl _) (by omega) hsz hl ?_
  have hrel:Rel J (S xs1.length).2 w1:=by
   refine⟨fun r row hr d=>V.rel.rows r row ?_ d,V.rel.lt,V.rel.size,V.rel.base,V.rel.tabs,V.rel.inj,T.clean' (Nat.le_refl _)⟩
   rw[<-hr]
   exact IL (F:=fun k=>(S k).2.get r) (W:=fun j=>Wr xs1 S U j r) (T.heap (r:=r)) (Nat.le_refl _) (fun j hj _=>by simp[hj])
  have hts:Cu J n (S xs1.length).1 a1.tmps:=by
   have:Ir xs1 S (fun j=>j<xs1.length)=(S xs1.length).1:=by
    funext t
    exact IL (F:=fun k=>(S k).1 t) (W:=fun j=>Wt xs1 j t) (T.tmp (t:=t)) (Nat.le_refl _) (fun j hj _=>by simp[hj])
   rw[<-this]
   exact V.ts
  have:=htail ro J w1 a1 (hrel.bump _) hts (fun j h1 h2 d=>by have:=hrel.lt _ d;omega) (fun e' a' w'=>e'= .normal/\∃J,Dk I J lo h.next h' w w'/\Cu J n ts' a'.tmps/\∃ms,a'.defers=ms++a.defers/\Marks J w w' ms)
   (fun J' w' a' hw t' hd=>⟨rfl,J',?_,t',[],by rw[hd,V.defers];rfl,Marks.nil _ _ _⟩)
  ·rw[hlen]at this;exact this
  ·have W1:Dk I J lo h.next (S xs1.length).2 w w1:=⟨⟨V.grows.le,V.grows.new⟩,V.dom,V.old,hrel,⟨V.ext.os,V.ext.tape,V.ext.output,V.ext.size,V.ext.block⟩⟩
   exact W1.trans hw (by omega)
 ·refine⟨fun j hj=>absurd hj (hno j),fun j hj=>absurd hj (hno j),by rw[yM];exact t,⟨fun r row hr d=>kd.rows r row (by rw[<-oA];exact hr) d,fun r d=>?_,kd.size,kd.base,kd.tabs,kd.inj,fun r hr=>?_⟩,fun j hj d=>?_,fun j y hy hc _ r d=>?_,fun j r row hj=>absurd hj (hno j),CK.refl _ _,fun r d=>.inl d,fun _ _ _ _ e=>e,Ext.refl _ _ _,rfl⟩
  ·have h1:=k.lt r d
   have h2:=hquiet.next
   simp only[Fv,H.bump]at h2⊢
   omega
  ·rw[oA]
   have h2:=hquiet.next
   simp only[Fv,H.bump]at hr h2
   exact k.clean r (by omega)
  ·have:=k.lt _ d
   omega
  ·have h1:=k.lt r d
   have h2:=T.room' (k:=j) (Nat.le_of_lt (List.getElem?_eq_some_iff.1 hy).1)
   omega

end
end AE

/- Scopes: code that may be jumped into; here nothing jumps. -/
namespace AE
open Go

theorem Gr {P:Program}{b:Frame}{a:Act}{k:List Item}{cs:List Frame}{w:World}{c:Code}:step P (lone (b.atR a (.code (.scope c)::k)) cs w)= .next (lone (b.atR a (.code c:: .inScope c::k)) cs w):=
 step_lone_go (by simp[stepG,stepG.exec,Frame.atR])
theorem TU {P:Program}{b:Frame}{a:Act}{k:List Item}{cs:List Frame}{w:World}{c:Code}:step P (lone (b.atR a (.inScope c::k)) cs w)= .next (lone (b.atR a k) cs w):=
 step_lone_go (by simp[stepG,stepG.exec,Frame.atR])

theorem RF {P:Program}{ro:Option Nat}{c:Code}{Q:Exit->Act->World->Prop}{a:Act}{w:World}(h:c.wpIn (WR ro) 0 P (fun e a w=>(∀l,e≠ .goto l)/\Q e a w) a w):(Code.scope c).wpIn (WR ro) 0 P Q a w:=by
 intro b k cs hro hb hr
 obtain⟨e,a₁,w₁,⟨hng,hq⟩,harr⟩:=h b (.inScope c::k) cs hro hb hr
 cases e with
 |normal=>exact⟨.normal,a₁,w₁,hq,.head (Fh P ro _) Gr (StepsIn.trans harr (.one (Fh P ro _) TU))⟩
 | exit id=>
   have hx:exitTo id (.inScope c::k)=exitTo id k:=by simp[exitTo]
   exact⟨_,a₁,w₁,hq,fun k' hk=>.head (Fh P ro _) Gr (harr.1 k' (by rw[hx];exact hk)),
    fun hr' hk=>let⟨k₁,h1,h2⟩:=harr.2 hr' (by rw[hx];exact hk);⟨k₁,h1,.head (Fh P ro _) Gr h2⟩⟩
 |goto l=>exact absurd rfl (hng l)
 |ret=>exact⟨_,a₁,w₁,hq,.of_steps (.one (Fh P ro _) Gr) harr⟩
 |panic ch=>exact⟨_,a₁,w₁,hq,.of_steps (.one (Fh P ro _) Gr) harr⟩
 |outgrown=>exact⟨_,a₁,w₁,hq,.of_steps (.one (Fh P ro _) Gr) harr⟩

theorem WT.scope {tp:Bool}{P:Program}{n lo:Nat}{Q:Exit->Ts->H->Prop}{ts:Ts}{h:H}{c:Code}(a:WT (TC tp P c) n lo (fun e ts h=>(∀l,e≠ .goto l)/\Q e ts h) ts h):WT (TC tp P (.scope c)) n lo Q ts h:=by
 obtain⟨e,ts',h',⟨hg,q⟩,hq,g⟩:=a
 refine⟨e,ts',h',q,hq,fun ro I w a k t htp=>RF (Go.wpIn_mono (g ro I w a k t htp) ?_)⟩
 rintro e' a' w' ⟨rfl,J,r⟩
 exact⟨hg,rfl,J,r⟩

end AE

/- Ranges over functions: the statement, and a call of yield. -/
namespace AE
open Go Go.RowKit

def EX (n:Nat) (ts:Ts) (ps:List Nat) (Ed body:Code):F3:=⟨.ready,.none,n,ts,ps,Ed,body⟩
def H.enter (h:H) (L:F3):H:=(h.bump 1).put h.next (.loop L)
def FU:Uh->Exit
 |.none=>.normal
 |.ret=>.ret
 |.exit id=>.exit id

section
variable {P:Program}{n lo:Nat}{Q:Exit->Ts->H->Prop}{ts:Ts}{h:H}

theorem Rel.aside {I:AZ}{w:World}(k:Rel I h w) (o:Obj):Rel I h (w.alloc o):=
 ⟨fun r row hr d=>(k.rows r row hr d).le (Le.refl I) (fun _ _ e=>e) (fun _ ⟨_,_,hb⟩=>heap_alloc_old w o (k.size _ _ _ _ hb)),k.lt,
  fun r s b d e=>by have:=k.size _ _ _ _ e;simp;omega,by have:=k.base;simp;omega,k.tabs.same (fun b' h1=>heap_alloc_old w o (Nat.lt_of_lt_of_le h1 k.base)),k.inj,k.clean⟩

theorem Quiet.put {lo:Nat}{h:H}{r:Nat}{row:BQ}(hr:lo<=r) (hn:r<h.next):Quiet lo h (h.put r row):=by
 refine⟨Nat.le_refl _,fun r' hr'=>?_,fun hc r' hr'=>?_⟩
 ·simp only[H.put];rw[if_neg (by omega)]
 ·simp only[H.put]at hr'⊢;rw[if_neg (by omega)];exact hc r' hr'
theorem Quiet.bump {lo:Nat}{h:H}(k:Nat):Quiet lo h (h.bump k):=⟨by simp[H.bump],fun _ _=>rfl,fun hc r hr=>hc r (by simp only[H.bump]at hr;omega)⟩
theorem Quiet.enter (hlo:lo<=h.next) (L:F3):Quiet lo h (h.enter L):=(Quiet.bump 1).trans (Quiet.put hlo (by simp[H.bump]))

theorem But.set (w:World) (l:Nat) (o:Obj):But l w {w with heap:=w.heap.setIfInBounds l o}:=
 ⟨rfl,rfl,rfl,by simp,fun j hj=>by simp[Array.getElem?_setIfInBounds_ne (Ne.symm hj)]⟩

theorem GJ {J:AZ}{h':H}{w:World}{r l:Nat}{L:F3}(k:Rel J h' w) (hg:h'.get r=some (.loop L)) (hat:J.at_ r none=some (l,0)):
 ∃tmps db fn,J.base<=l/\Cu J L.size L.tmps tmps/\w.heap[l]? =some (.loop {state:=L.state,pending:=EG L.pend,fn,tmps,params:=⟨L.params⟩,assign:=L.Ed,body:=L.body,defers:=db}):=by
 obtain⟨b,tmps,db,fn,e1,e2,e3,e4⟩:=k.rows r _ hg ⟨none,_,hat⟩
 rw[hat]at e1
 simp only[Option.some.injEq,Prod.mk.injEq,and_true]at e1
 subst e1
 exact⟨tmps,db,fn,e2,e3,e4⟩

theorem OB {J:AZ}{h':H}{w:World}{r l:Nat}{L L':F3}(k:Rel J h' w) (hg:h'.get r=some (.loop L)) (hat:J.at_ r none=some (l,0)) (hlo:lo<=r) (hs:L'.size=L.size) (ht:L'.tmps=L.tmps) (hp:L'.params=L.params) (ha:L'.Ed=L.Ed) (hb:L'.body=L.body):
 ∀lp:Loop,w.heap[l]? =some (.loop lp)->Dk J J lo h'.next (h'.put r (.loop L')) w {w with heap:=w.heap.setIfInBounds l (.loop {lp with state:=L'.state,pending:=EG L'.pend})}:=by
 intro lp hlp
 obtain⟨tmps,db,fn,e2,e3,e4⟩:=GJ k hg hat
 rw[e4]at hlp
 simp only[Option.some.injEq,Obj.loop.injEq]at hlp
 subst hlp
 have De:=But.set w l (.loop {state:=L'.state,pending:=EG L'.pend,fn:=fn,tmps:=tmps,params:=⟨L.params⟩,assign:=L.Ed,body:=L.body,defers:=db})
 refine⟨CK.refl J w,fun _ d=>.inl d,fun _ _ _ _ e=>e,k.store e2 ⟨_,_,hat⟩ De ?_,De.ext hlo hat e2⟩
 refine⟨l,tmps,db,fn,hat,e2,by rw[hs,ht];exact e3,?_⟩
 have hsz:=k.size _ _ _ _ hat
 simp only[hp,ha,hb]
 rw[Array.getElem?_setIfInBounds_self_of_lt hsz]

theorem eE {ro:Option Nat}{p:Uh}{Q:Exit->Act->World->Prop}{a:Act}{w:World}(q:Q (FU p) a w):
 (match EG p with|none=>Q .normal a w|some c=>c.wpIn (WR ro) 0 P Q a w):=by
 cases p with
 |none=>exact q
 |ret=>exact wpIn_ret q
 |exit id=>exact wpIn_exit q

theorem WT.range {f:Operand}{f':BH}{g:FuncId}{first CL:List Value}{ps:List Nat}{Ed body:Code}{v:Value}{h':H}{L:F3}(hf:Bw f=some f') (hv:ev ts f'= .func (.func g) ⟨first⟩ ⟨CL⟩) (hlo:lo<=h.next)
 (ha:AF P g lo (h.enter (EX n ts ps Ed body)) (first++[.func (.yield h.next) ⟨[]⟩ ⟨[]⟩]++CL) v h') (hL:h'.get h.next=some (.loop L)) (hs:L.state≠ .busy) (q:Q (FU L.pend) ts (h'.put h.next .gone)):
 WT (TC true P (.rangeFunc f ⟨ps⟩ Ed body)) n lo Q ts h:=by
 have hq:=(Quiet.enter hlo (EX n ts ps Ed body)).trans ha.quiet
 have hnx:h.next<h'.next:=Nat.lt_of_lt_of_le (by simp[H.enter,H.bump,H.put]) ha.quiet.next
 refine⟨_,ts,_,q,hq.trans (Quiet.put hlo hnx),fun ro I w a k t htp=>?_⟩
 have hro:=htp rfl
 subst hro
 refine wpIn_rangeFunc fun fn _=>?_
 let w0:=w.alloc (.deferred (some []))
 let ob:Obj:=.loop {state:=.ready,pending:=none,fn:=fn,tmps:=a.tmps,params:=⟨ps⟩,assign:=Ed,body:=body,defers:=w.heap.size}
 have hsz0:w0.heap.size=w.heap.size+1:=by simp[w0]
 have k0:Rel I h w0:=k.aside _
 have hnd:¬I.dom h.next:=fun d=>by have:=k.lt _ d;omega
 have hle:Le I (I.plus h.next none w0.heap.size 0):=Le.plus (FJ hnd none)
 have k1:Rel (I.plus h.next none w0.heap.size 0) (h.enter (EX n ts ps Ed body)) (w0.alloc ob):=by
  refine(k0.bump 1).new hnd (by simp[H.bump]) none 0 ob ?_
  exact⟨w0.heap.size,a.tmps,w.heap.size,fn,AZ.BD ..,k0.base,t.le hle,by rw[heap_alloc];rfl⟩
 obtain⟨ef,iF⟩:=t.ev f f' hf
 rw[hv]at ef iF
 obtain⟨Agy,Ad9⟩:=hle.ren _ iF
 simp only[ren,Gs]at ef
 have hev:∀x:Operand,({a with defers:=[({target:=.collected w.heap.size,args:= #[]}:Deferred)]++a.defers}:Act).eval x=a.eval x:=fun x=>by cases x<;>rfl
 refine⟨w0.heap.size,[{target:=.collected w.heap.size,args:= #[]}],w0.alloc ob,{target:=.fn (.func g) ⟨AX I CL⟩,args:=⟨AX I first⟩++ #[.func (.yield w0.heap.size) #[] #[]]},w0.alloc ob,g,⟨AX (I.plus h.next none w0.heap.size 0) (first++[.func (.yield h.next) ⟨[]⟩ ⟨[]⟩]++CL)⟩,w0.alloc ob,?_,?_,fun _ _=>trivial,?_,fun _=>by simp[WR,Fence.wide]at*,?_⟩
 ·simp[Instr.enterLoop,WR,Fence.wide,w0,ob]
 ·have yL:∀v,a.eval (.const v)=v:=fun v=>rfl
  simp[resolve,rangeCall,ef,yL,Deferred.ofValue]
 ·have hargs:((⟨AX I first⟩:Array Value)++ #[.func (.yield w0.heap.size) #[] #[]]++⟨AX I CL⟩)=⟨AX (I.plus h.next none w0.heap.size 0) (first++[.func (.yield h.next) ⟨[]⟩ ⟨[]⟩]++CL)⟩:=by
   simp only[In,Ku,true_and]at iF
   apply Array.ext'
   simp[CY,(hle.AX _ iF.1).1,(hle.AX _ iF.2).1,AX,ren,Gs,AZ.blk,AZ.BD]
  simp only[invoke]
  rw[hargs]
  exact ha.enters _ _
 ·refine NQ ((ha.calls _ _ k1 ?_).mono ?_)
  ·simp only[In,Ku,true_and]at iF
   rw[Df,Df]
   exact⟨⟨(hle.AX _ iF.1).2,by simp only[C5,In,Ku,and_true];exact⟨_,AZ.BD ..⟩⟩,(hle.AX _ iF.2).2⟩
  ·rintro e w3 ⟨J,W,iv,rfl⟩
   have hat:J.at_ h.next none=some (w0.heap.size,0):=W.grows.le.at_ _ _ _ (AZ.BD ..)
   obtain⟨tmps,db,fn',e2,e3,e4⟩:=GJ W.rel hL hat
   have De:=But.set w3 w0.heap.size (.loop {state:=.exhausted,pending:=EG L.pend,fn:=fn',tmps,params:=⟨L.params⟩,assign:=L.Ed,body:=L.body,defers:=db})
   refine⟨EG L.pend,{w3 with heap:=w3.heap.setIfInBounds w0.heap.size (.loop {state:=.exhausted,pending:=EG L.pend,fn:=fn',tmps,params:=⟨L.params⟩,assign:=L.Ed,body:=L.body,defers:=db})},?_,?_⟩
   ·simp[Instr.endLoop,Instr.getLoop,getObj,setObj,Sem.run,e4]
    cases hst:L.state<;>first|exact absurd hst hs|simp
   ·refine eE (Q:=fun e' a' w'=>e'=FU L.pend/\∃J,Dk I J lo h.next (h'.put h.next .gone) w w'/\Cu J n ts a'.tmps/\∃ms,a'.defers=ms++a.defers/\Marks J w w' ms) (ro:=none) ⟨rfl,J,?_,?_,[{target:=.collected w.heap.size,args:= #[]}],rfl,?_⟩
    ·have hrel:Rel J (h'.put h.next .gone) _:=W.rel.store e2 ⟨_,_,hat⟩ De trivial
     have hold:∀r s p,r<lo->J.at_ r s=some p->I.at_ r s=some p:=fun r s p hr e=>by
      have:=W.old r s p hr e
      rwa [AZ.BA (by omega)]at this
     have hgr:CK I J w:=by
      refine⟨hle.trans W.grows.le,fun r s b d e=>?_⟩
      have YP:∀r s b d,(I.plus h.next none w0.heap.size 0).at_ r s=some (b,d)->I.at_ r s=some (b,d)\/w.heap.size<=b:=fun r s b d e=>by
       by_cases hr:r=h.next/\s=none
       ·obtain⟨rfl,rfl⟩:=hr
        rw[AZ.BD]at e
        simp only[Option.some.injEq,Prod.mk.injEq]at e
        omega
       ·rw[AZ.BA hr]at e
        exact .inl e
      rcases W.grows.new r s b d e with e|e|⟨s',d',e⟩
      ·exact(YP _ _ _ _ e).imp id .inl
      ·simp only[World.alloc]at e
       have:w0.heap.size<=b:=by simp at e;omega
       exact .inr (.inl (by omega))
      ·rcases YP _ _ _ _ e with e|e
       ·exact .inr (.inr ⟨_,_,e⟩)
       ·exact .inr (.inl e)
     refine⟨hgr,fun r d=>?_,hold,hrel,?_⟩
     ·rcases W.dom r d with d|d
      ·rcases AZ.C8 d with d|rfl
       ·exact .inl d
       ·exact .inr (Nat.le_refl _)
      ·exact .inr (by simp[H.enter,H.bump,H.put]at d;omega)
     ·have x1:=(Ext.alloc I lo w (.deferred (some [])))
      have x2:=x1.trans (CK.refl I w) (Ext.alloc I lo w0 ob)
      refine⟨?_,?_,?_,?_,fun b hb hx=>?_⟩
      ·rw[De.os,W.ext.os,x2.os]
      ·rw[De.tape,W.ext.tape,x2.tape]
      ·rw[De.output,W.ext.output,x2.output]
      ·rw[De.size];exact Nat.le_trans x2.size W.ext.size
      ·rw[De.block b (by omega),W.ext.block b (by have:=x2.size;omega) (fun r s d e hbase=>?_),x2.block b hb hx]
       by_cases hr:r=h.next/\s=none
       ·obtain⟨rfl,rfl⟩:=hr
        rw[AZ.BD]at e
        simp only[Option.some.injEq,Prod.mk.injEq]at e
        omega
       ·rw[AZ.BA hr]at e
        exact hx r s d e hbase
    ·exact t.le (hle.trans W.grows.le)
    ·have hb0:(w0.alloc ob).heap[w.heap.size]? =some (.deferred (some [])):=by
      rw[heap_alloc_old w0 ob (by omega)];exact heap_alloc w _
     have hout:∀r s d,(I.plus h.next none w0.heap.size 0).at_ r s≠some (w.heap.size,d):=fun r s d e=>by
      by_cases hr:r=h.next/\s=none
      ·obtain⟨rfl,rfl⟩:=hr
       rw[AZ.BD]at e
       simp only[Option.some.injEq,Prod.mk.injEq]at e
       omega
      ·rw[AZ.BA hr]at e
       have:=k.size _ _ _ _ e
       omega
     have hsz1:(w0.alloc ob).heap.size=w.heap.size+2:=by simp[hsz0]
     refine⟨fun m hm=>?_,by simp⟩
     simp only[List.mem_singleton]at hm
     subst hm
     refine⟨w.heap.size,rfl,Nat.le_refl _,?_,?_,fun r s d e=>?_⟩
     ·rw[De.size];have:=W.ext.size;omega
     ·rw[De.block _ (by omega),W.ext.block _ (by omega) (fun r s d e=>absurd e (hout r s d)),hb0]
     ·rcases W.grows.new r s _ d e with e|e|⟨s',d',e⟩
      ·exact hout _ _ _ e
      ·omega
      ·exact hout _ _ _ e


def Jy:List Nat->List Value->Ts->Ts
 |p::ps,v::vs,ts=>Jy ps vs (JU ts p v)
 |_,_,ts=>ts

theorem Cu.Jy {I:AZ}:∀(ps:List Nat) (vs:List Value) (ts:Ts) (tmps:Array Value),Cu I n ts tmps->(∀p∈ps,p<n)->C5 I vs->
 Cu I n (AE.Jy ps vs ts) ((ps.zip (AX I vs)).foldl (fun tmps (t,a)=>tmps.setIfInBounds t a) tmps)
 |[],_,_,_,t,_,_=>by simpa[AE.Jy]using t
 |_::_,[],_,_,t,_,_=>by simpa[AE.Jy,AX]using t
 | p::ps,v::vs,ts,tmps,t,hp,hv=>by
   simp only[AE.Jy,AX,List.zip_cons_cons,List.foldl_cons]
   refine Cu.Jy ps vs _ _ ?_ (fun q hq=>hp q (by simp[hq])) hv.2
   have hpn:=hp p (by simp)
   have:=Cu.put (a:={tmps:=tmps,defers:=[]}) (dst:=some p) t hv.1 (by simp[Md,hpn])
   exact this

def roundEnd (e:Exit):Option Uh:=match e with
 |.normal=>some .none
 |.ret=>some .ret
 |.exit id=>some (.exit id)
 |_=>none
def M8:Uh->Bool
 |.none=>true
 |_=>false
def Ov:Uh->LoopState
 |.none=>.ready
 |_=>.done
def busy (L:F3):F3:={L with state:=.busy}
def ended (L:F3) (p:Uh):F3:={L with state:=Ov p,pend:=p}

theorem OX {l:Nat}{w:World}{lp:Loop}{p:Uh}(hlp:w.heap[l]? =some (.loop lp)):
 (Instr.endRound l (EG p)).run P w= .ok (.bool (M8 p)) {w with heap:=w.heap.setIfInBounds l (.loop {lp with state:=Ov p,pending:=EG p})}:=by
 cases p<;>simp[Instr.endRound,Instr.getLoop,getObj,setObj,Sem.run,hlp,EG,M8,Ov]

def YW (P:Program) (lo r:Nat) (Ed body:Code) (size:Nat) (args:List Value) (ps:List Nat) (tmps:Ts) (h:H) (R:Value->H->Prop):Prop:=
 WT (TC false P Ed) size lo (fun e Iy h1=>e= .normal/\∃L1,h1.get r=some (.loop L1)/\L1.state= .ready/\
  WT (TC false P body) size lo (fun e _ h2=>∃p L2,roundEnd e=some p/\h2.get r=some (.loop L2)/\R (.bool (M8 p)) (h2.put r (.loop (ended L2 p)))) Iy (h1.put r (.loop (busy L1)))) (Jy ps args tmps) h

theorem ZR {r:Nat}{L:F3}{args:List Value}{R:Value->H->Prop}(hg:h.get r=some (.loop L)) (hlo:lo<=r) (hr:r<h.next) (hlen:args.length=L.params.length) (hps:∀p∈L.params,p<L.size)
 (hw:YW P lo r L.Ed L.body L.size args L.params L.tmps h R):∃v h',R v h'/\CX P (.func (.yield r) ⟨[]⟩ ⟨[]⟩) lo h args v h':=by
 obtain⟨e1,Iy,h1,⟨rfl,L1,hg1,yA,e2,lJ,h2,⟨p,L2,hp,hg2,hR⟩,hq2,gb⟩,hq1,ga⟩:=hw
 have hn1:r<h1.next:=Nat.lt_of_lt_of_le hr hq1.next
 have hn2:r<h2.next:=Nat.lt_of_lt_of_le hn1 hq2.next
 refine⟨_,_,hR,(hq1.trans (Quiet.put hlo hn1)).trans (hq2.trans (Quiet.put hlo hn2)),fun o c ro a I w K Q ho ef TS k iF Ub hK=>?_⟩
 simp only[In,Ku]at iF
 obtain⟨⟨l,hat⟩, -⟩:=iF
 obtain⟨tmps,db,fn,eb,oY,ew⟩:=GJ k hg hat
 have hdef:∀c',o.op≠ .defer c':=fun c' e=>by rw[ho]at e;simp at e
 have hblk:I.blk r=l:=by simp[AZ.blk,hat]
 simp only[ren,Gs,hblk,AX]at ef
 unfold Uk at ef
 have bP:c.args.map a.eval=⟨AX I args⟩:=by apply Array.ext';simp[TS]
 have FG:(execOp a.eval o).run P w= .ok (.round l fn ((L.params.zip (AX I args)).foldl (fun tmps (t,a)=>tmps.setIfInBounds t a) tmps) L.Ed L.body) w:=by
  have hsz:(AX I args).length=L.params.length:=by rw[Cw,hlen]
  simp[execOp,ho,ef,Deferred.ofValue,invoke,Instr.yield,Instr.getLoop,getObj,Sem.run,ew,bP,hsz]
 refine⟨fun _ _=>trivial,?_⟩
 rw[Oper.semAt_eq _ _ _ hdef,FG,Oper.uponIn_round]
 refine⟨fun h=>by simp[WR,Fence.wide]at h,roundIn_of_wpIn trivial ?_⟩
 have ht0:=Cu.Jy L.params args L.tmps tmps oY hps Ub
 have hF:(WR ro).inRound l=WR (some l):=rfl
 rw[hF]
 refine Go.wpIn_mono (ga (some l) I w {tmps:=_,defers:=[]} k ht0 (by simp)) ?_
 rintro e a1 w1 ⟨rfl,J1,W1,t1,ms1, -, -⟩
 have bO:J1.at_ r none=some (l,0):=W1.grows.le.at_ _ _ _ hat
 obtain⟨dJ,db1,fn1,eb1,Abm,ew1⟩:=GJ W1.rel hg1 bO
 have S1:=OB (L':=busy L1) W1.rel hg1 bO hlo rfl rfl rfl rfl rfl _ ew1
 refine⟨_,?_,Go.wpIn_mono (gb (some l) J1 _ a1 S1.rel t1 (by simp)) ?_⟩
 ·rw[yA]at ew1
  simp[Instr.beginRound,Instr.getLoop,getObj,setObj,Sem.run,ew1,busy]
 ·rintro e a2 w2 ⟨rfl,J2,W2,t2,ms2, -, -⟩
  have oC:J2.at_ r none=some (l,0):=W2.grows.le.at_ _ _ _ bO
  obtain⟨Ac5,db2,fn2,eb2,Abl,ew2⟩:=GJ W2.rel hg2 oC
  have S2:=OB (L':=ended L2 p) W2.rel hg2 oC hlo rfl rfl rfl rfl rfl _ ew2
  have hend:=OX (P:=P) (p:=p) ew2
  have hfin:=hK J2 _ (((W1.trans S1 hq1.next).trans W2 (Nat.le_trans hq1.next (Nat.le_refl _))).trans S2 (Nat.le_trans hq1.next hq2.next)) (by simp[In])
  simp only[ren]at hfin
  cases e<;>simp only[roundEnd,Option.some.injEq,reduceCtorEq]at hp
  all_goals subst hp;exact⟨_,_,hend,hfin⟩

end
end AE

/- Walks that may come to one of many ends: for code that chooses its order (ranges over maps). -/
namespace AE
open Go Go.RowKit

def WD (T:Tr) (n lo:Nat) (Q:Exit->Ts->H->Prop) (ts:Ts) (h:H):Prop:=
 ∀ro I w a,Rel I h w->Cu I n ts a.tmps->T ro (fun e a' w'=>∃ts' h' J,Q e ts' h'/\Quiet lo h h'/\Dk I J lo h.next h' w w'/\Cu J n ts' a'.tmps/\∃ms,a'.defers=ms++a.defers/\Marks J w w' ms) a w

theorem WT.wd {T:Tr}{n lo:Nat}{Q:Exit->Ts->H->Prop}{ts:Ts}{h:H}(m:Xm T) (a:WT T n lo Q ts h):WD T n lo Q ts h:=by
 obtain⟨e,ts',h',q,hq,g⟩:=a
 intro ro I w a k t
 refine m _ _ _ ?_ _ _ (g ro I w a k t)
 rintro e' a' w' ⟨rfl,J,hw,t',ms⟩
 exact⟨ts',h',J,q,hq,hw,t',ms⟩

theorem WD.mono {T:Tr}{n lo:Nat}{Q Q':Exit->Ts->H->Prop}{ts:Ts}{h:H}(m:Xm T) (a:WD T n lo Q ts h) (hq:∀e ts h,Q e ts h->Q' e ts h):WD T n lo Q' ts h:=by
 intro ro I w b k t
 refine m _ _ _ ?_ _ _ (a ro I w b k t)
 rintro e' a' w' ⟨ts',h',J,q,r⟩
 exact⟨ts',h',J,hq _ _ _ q,r⟩

theorem WD.then {T1 T2 T:Tr}{n lo:Nat}{Q:Exit->Ts->H->Prop}{ts:Ts}{h:H}(m1:Xm T1) (m2:Xm T2) (hT:∀ro Q a w,T1 ro (Exit.then (T2 ro Q) Q) a w->T ro Q a w)
 (a:WD T1 n lo (EW (WD T2 n lo Q) Q) ts h):WD T n lo Q ts h:=by
 intro ro I w b k t
 refine hT _ _ _ _ (m1 _ _ _ ?_ _ _ (a ro I w b k t))
 rintro e' a' w' ⟨Iy,h1,J,q,hq,hw,t',ms,hd,hms⟩
 by_cases he:e'= .normal
 ·subst he
  refine m2 _ _ _ ?_ _ _ (q ro J w' a' hw.rel t')
  rintro e'' a'' w'' ⟨lJ,h2,K,q2,hq2,hw',t'',ms',hd',yG⟩
  exact⟨lJ,h2,K,q2,hq.trans hq2,hw.trans hw' hq.next,t'',ms'++ms,by rw[hd',hd,List.append_assoc],hms.append (I:=I) yG hw' hw.ext.size⟩
 ·cases e'<;>first|exact absurd rfl he|exact⟨Iy,h1,J,q,hq,hw,t',ms,hd,hms⟩

section
variable {tp:Bool}{P:Program}{n lo:Nat}{Q:Exit->Ts->H->Prop}{ts:Ts}{h:H}
theorem WD.loop {c:Code}(a:WD (TL tp P c) n lo Q ts h):WD (TC tp P (.loop c)) n lo Q ts h:=fun ro I w b k t=>gF _ _ _ _ (a ro I w b k t)
theorem WD.round {c:Code}(a:WD (TC tp P c) n lo (EW (WD (TL tp P c) n lo Q) Q) ts h):WD (TL tp P c) n lo Q ts h:=WD.then (B0 tp P c) (gE tp P c) Zx a
theorem WD.seq {x y:Code}(a:WD (TC tp P x) n lo (EW (WD (TC tp P y) n lo Q) Q) ts h):WD (TC tp P (.seq x y)) n lo Q ts h:=
 WD.then (B0 tp P x) (B0 tp P y) (fun _ _ _ _ h htp=>wpIn_seq (Go.wpIn_mono (h htp) (fun e _ _ q=>by cases e<;>first|exact q htp|exact q))) a
theorem WD.block {id:Nat}{c:Code}(a:WD (TC tp P c) n lo (EU id Q) ts h):WD (TC tp P (.block id c)) n lo Q ts h:=by
 intro ro I w b k t htp
 refine wpIn_block (Go.wpIn_mono (a ro I w b k t htp) ?_)
 rintro e' a' w' ⟨ts',h',J,q,r⟩
 cases e'<;>try exact⟨ts',h',J,q,r⟩
 rename_i id'
 simp only[Exit.inBlock]
 simp only[EU]at q
 split
 ·rename_i he;rw[if_pos he]at q;exact⟨ts',h',J,q,r⟩
 ·rename_i he;rw[if_neg he]at q;exact⟨ts',h',J,q,r⟩
theorem WD.cond {c:Operand}{c':BH}{x y:Code}{b:Bool}(hc:Bw c=some c') (hb:ev ts c'= .bool b) (a:WD (TC tp P (if b then x else y)) n lo Q ts h):WD (TC tp P (.cond c x y)) n lo Q ts h:=by
 intro ro I w d k t htp
 refine wpIn_cond (t:=b) ?_ (a ro I w d k t htp)
 rw[(t.ev c c' hc).1,hb];simp[ren]
end

def AZ.below (J:AZ) (n:Nat):AZ:=⟨fun r s=>if r<n then J.at_ r s else none,J.cap,J.base⟩
theorem AZ.EJ {J:AZ}{n r:Nat}{s:Option Nat}(h:r<n):(J.below n).at_ r s=J.at_ r s:=if_pos h
theorem AZ.BL {J:AZ}{n r:Nat}{s:Option Nat}{p:Nat × Nat}(h:(J.below n).at_ r s=some p):r<n/\J.at_ r s=some p:=by
 replace h:(if r<n then J.at_ r s else none)=some p:=h
 by_cases hr:r<n
 ·rw[if_pos hr]at h;exact⟨hr,h⟩
 ·rw[if_neg hr]at h;exact absurd h (by simp)
theorem AZ.below_le (J:AZ) (n:Nat):Le (J.below n) J:=⟨fun _ _ _ h=>(AZ.BL h).2,fun _ _ _ _=>rfl,rfl⟩
theorem Le.below {I J:AZ}{n:Nat}(h:Le I J) (hn:∀r,I.dom r->r<n):Le I (J.below n):=
 ⟨fun r s p e=>by rw[AZ.EJ (hn r ⟨s,p,e⟩)];exact h.at_ r s p e,h.cap,h.base⟩
theorem Ci.below {I J:AZ}{n r:Nat}{w w':World}{row:BQ}(hI:Le I (J.below n)) (hr:r<n) (k:Ci I r w row) (k':Ci J r w' row):Ci (J.below n) r w' row:=by
 have hb:=J.below_le n
 cases row with
 | cells c e=>
   obtain⟨b,e1,e2,e3⟩:=k'.2
   have i:=(hI.AX c k.1).2
   exact⟨i,b,(AZ.EJ hr).trans e1,e2,by rw[e3,(hb.AX c i).1]⟩
 | ro c=>
   obtain⟨b,d,e1,e2⟩:=k'.2
   have i:=(hI.AX c k.1).2
   exact⟨i,b,d,(AZ.EJ hr).trans e1,fun j v hj=>by rw[e2 j v hj,(hb.ren v (Gm i hj)).1]⟩
 | grow c e sz lens valid=>
   obtain⟨-,h1,h2,hgen,hof,h3⟩:=k'
   have i:=(hI.AX c k.1).2
   refine⟨i,h1,h2,fun g p e=>hgen g p (AZ.BL e).2,fun g g' b d d' v v' e e'=>hof g g' b d d' v v' (AZ.BL e).2 (AZ.BL e').2,fun g hg hl=>?_⟩
   obtain⟨b,d,C,e1,e2,e3,e4,e5,e6⟩:=h3 g hg hl
   exact⟨b,d,C,(AZ.EJ hr).trans e1,e2,e3,e4,e5,by rw[<-(hb.AX c i).1];exact e6⟩
 | map es clock=>
   obtain⟨b,e1,e2,e3⟩:=k'.2
   have i:∀e∈es,wI (J.below n) e:=fun e he=>⟨(hI.ren _ (k.1 e he).1).2,(hI.ren _ (k.1 e he).2).2⟩
   refine⟨i,b,(AZ.EJ hr).trans e1,e2,?_⟩
   rw[e3]
   congr 3
   exact List.map_congr_left fun e he=>by unfold Dl;rw[(hb.ren _ (i e he).1).1,(hb.ren _ (i e he).2).1]
 | iter m since seen c0=>
   obtain⟨b,bm,e1,e2,e3,e4⟩:=k'
   obtain⟨b0,bm0,f1,f2,f3,f4⟩:=k
   exact⟨b,bm,(AZ.EJ hr).trans e1,e2,by have:=hI.at_ _ _ _ f3;have h3:=(AZ.BL this).2;rw[e3]at h3;simp at h3;subst h3;exact this,e4⟩
 | Oc s p=>
   obtain⟨b,e1,e2,e3⟩:=k'
   exact⟨b,(AZ.EJ hr).trans e1,e2,e3⟩
 | loop l=>
   obtain⟨-,tm, -, -, -, -,t0, -⟩:=k
   obtain⟨b,tmps,db,fn,e1,e2,e3,e5⟩:=k'
   refine⟨b,tmps,db,fn,(AZ.EJ hr).trans e1,e2,⟨e3.1,fun i=>?_⟩,e5⟩
   have i0:=(hI.ren _ (t0.2 i).2).2
   exact⟨by rw[(e3.2 i).1,(hb.ren _ i0).1],i0⟩
 | defers=>
   obtain⟨b,e1,e2,e3⟩:=k'
   exact⟨b,(AZ.EJ hr).trans e1,e2,e3⟩
 |gone=>trivial
theorem Dk.below {I J:AZ}{lo:Nat}{h h':H}{w w':World}(k:Rel I h w) (a:Dk I J lo h.next h' w w') (hs:∀r,r<h.next->h'.get r=h.get r):Dk I (J.below h.next) lo h.next h w w':=by
 have hI:Le I (J.below h.next):=a.grows.le.below k.lt
 refine⟨⟨hI,fun r s b d e=>a.grows.new r s b d (AZ.BL e).2⟩,fun r ⟨s,p,e⟩=>a.dom r ⟨s,p,(AZ.BL e).2⟩,fun r s p hr e=>a.old r s p hr (AZ.BL e).2,?_,a.ext⟩
 refine⟨fun r row hr ⟨s,p,e⟩=>?_,fun r ⟨s,p,e⟩=>(AZ.BL e).1,fun r s b d e=>a.rel.size r s b d (AZ.BL e).2,a.rel.base,a.rel.tabs,fun r r' s s' b d d' e e' hb=>a.rel.inj r r' s s' b d d' (AZ.BL e).2 (AZ.BL e').2 hb,k.clean⟩
 obtain⟨hlt,e⟩:=AZ.BL e
 have hd:I.dom r:=(a.dom r ⟨s,p,e⟩).resolve_right (by omega)
 exact(k.rows r row hr hd).below hI hlt (a.rel.rows r row (by rw[hs r hlt];exact hr) ⟨s,p,e⟩)

theorem WD.strong {T:Tr}{n lo:Nat}{Q:Exit->Ts->H->Prop}{ts:Ts}{h:H}(m:Xm T) (a:WD T n lo Q ts h):WD T n lo (fun e ts' h'=>Q e ts' h'/\Quiet lo h h') ts h:=by
 intro ro I w b k t
 refine m _ _ _ ?_ _ _ (a ro I w b k t)
 rintro e' a' w' ⟨ts',h',J,q,hq,r⟩
 exact⟨ts',h',J,⟨q,hq⟩,hq,r⟩


def nextQ (lo:Nat) (x:BH) (a b:Nat) (Q:Ts->H->Prop) (ts:Ts) (h:H):Prop:=
 ∃r m since seen c0 es clock,ev ts x= .pointer (some ⟨r,0,none⟩)/\lo<=r/\r≠m/\h.get r=some (.iter m since seen c0)/\h.get m=some (.map es clock)/\(∀e∈es,e.born<since)/\since<=c0/\
  ((∀e∈es,e.born∈seen)->Q (JU (JU ts a (.tuple #[.bool false])) b (.bool false)) h)/\
  (∀e∈es,e.born∉seen->Q (JU (JU ts a (.tuple #[.bool true,e.key,e.val])) b (.bool true)) (h.put r (.iter m since (seen++[e.born]) clock)))

theorem But.Ac8 (w:World) (b:Nat) (o:Obj):But b w (ChangeMaps.setBlock w b o):=by
 refine⟨rfl,rfl,rfl,by simp[ChangeMaps.setBlock],fun k hk=>?_⟩
 simp only[ChangeMaps.setBlock]
 rw[Array.getElem?_setIfInBounds_ne (fun e=>hk e.symm)]
theorem But.Ag0 {b:Nat}{w w':World}(h:But b w.drew w'):But b w w':=⟨h.os,h.tape,h.output,h.size,h.block⟩

theorem jj {I:AZ}{es:List MapEntry}{seen:List Nat}(h:(leftOf ⟨es.map (Dl I)⟩ ⟨seen⟩).size=0):∀e∈es,e.born∈seen:=by
 intro e he
 have:=all_seen ⟨es.map (Dl I)⟩ ⟨seen⟩ h (Dl I e) (by simpa using⟨e,he,rfl⟩)
 simpa[Dl]using this
theorem ji {I:AZ}{es:List MapEntry}{seen:List Nat}{e':MapEntry}(h:e'∈(leftOf ⟨es.map (Dl I)⟩ ⟨seen⟩).toList):∃e∈es,e'=Dl I e/\e.born∉seen:=by
 obtain⟨h1,h2⟩:=mem_left h
 simp only[List.mem_map]at h1
 obtain⟨e,he,rfl⟩:=h1
 exact⟨e,he,rfl,by simpa[Dl]using h2⟩

theorem WD.next {tp:Bool}{P:Program}{n lo id:Nat}{ops:Array Oper}{x:Operand}{x':BH}{a b:Nat}{o1 o2:Oper}{Q:Exit->Ts->H->Prop}{ts:Ts}{h:H}(ho:ops.toList=[o1,o2])
 (h1:o1.op= .next x false) (d1:o1.dst=some a) (g1:o1.guard=none) (h2:o2.op= .extract (.tmp a) 0) (d2:o2.dst=some b) (g2:o2.guard=none) (ha:a<n) (hb:b<n) (hx:Bw x=some x')
 (hw:nextQ lo x' a b (Q .normal) ts h):WD (TC tp P (.region id ops false)) n lo Q ts h:=by
 obtain⟨r,m,since,seen,c0,es,clock,e1,hlo,hrm,hg,hgm,hold,hsc,hw0,hw1⟩:=hw
 intro ro I w act k t _
 refine wpIn_region ?_
 obtain⟨ops⟩:=ops
 simp only at ho
 subst ho
 have hr2:List.range (#[o1,o2]:Array Oper).size=[0,1]:=rfl
 rw[hr2]
 obtain⟨e2,i2⟩:=t.ev x x' hx
 rw[e1]at e2 i2
 simp only[In,Nm]at i2
 obtain⟨p0,hp0⟩:=i2
 obtain⟨bi,bm,hat,hbase,jz,hheap⟩:=k.rows _ _ hg ⟨_,_,hp0⟩
 obtain⟨ie,bm',S6,yN,bK⟩:=k.rows _ _ hgm ⟨_,_,jz⟩
 rw[jz]at S6;simp at S6;subst S6
 simp only[ren,Ew,hat,Nat.add_zero]at e2
 have yt:∀c:Act,Region.wanted o1 (yielded #[o1,o2] c.tmps)=true:=fun c=>by simp[Region.wanted,g1]
 have yq:∀c:Act,Region.wanted o2 (yielded #[o1,o2] c.tmps)=true:=fun c=>by simp[Region.wanted,g2]
 have hd1:∀c,o1.op≠ .defer c:=by simp[h1]
 have hd2:∀c,o2.op≠ .defer c:=by simp[h2]
 -- the rest, from a world in which the heap lies
 have fin:∀(v:Value) (tl:List Value) (bb:Bool) (h':H) (w':World),v= .tuple ⟨.bool bb::tl⟩->C5 I tl->Rel I h' w'->Quiet lo h h'->Ext I lo w w'->Q .normal (JU (JU ts a v) b (.bool bb)) h'->
  wpOpsIn (WR ro) 0 P #[o1,o2] (fun e a' w'=>∃ts' h' J,Q e ts' h'/\Quiet lo h h'/\Dk I J lo h.next h' w w'/\Cu J n ts' a'.tmps/\∃ms,a'.defers=ms++act.defers/\Marks J w w' ms) [1] (act.put o1.dst (ren I v)) w':=by
  rintro v tl bb h' w' rfl itl k' hq hext q
  have iv:In I (.tuple ⟨.bool bb::tl⟩):=by simp[In,C5,itl]
  have t1:Cu I n (G0 ts (.tuple ⟨.bool bb::tl⟩) (some a)) (act.put (some a) (ren I (.tuple ⟨.bool bb::tl⟩))).tmps:=t.put iv (by simp[Md,ha])
  rw[d1]
  simp only[wpOpsIn,List.getElem?_toArray,List.getElem?_cons_succ,List.getElem?_cons_zero,yq,if_true]
  obtain⟨ex1,ix1⟩:=t1.ev (.tmp a) (.t a) rfl
  have hva:ev (G0 ts (.tuple ⟨.bool bb::tl⟩) (some a)) (.t a)= .tuple ⟨.bool bb::tl⟩:=by simp[ev,G0,JU]
  rw[hva]at ex1
  have hrun:(execOp (act.put (some a) (ren I (.tuple ⟨.bool bb::tl⟩))).eval o2).run P w'= .ok (.value (.bool bb)) w':=by
   simp only[execOp,h2,ex1]
   simp[Instr.extract,ren,AX]
  refine IP (v:=.bool bb) hd2 hrun (.inl rfl) ?_
  have t2:=t1.put (v:=.bool bb) (dst:=some b) (by simp[In]) (by simp[Md,hb])
  rw[d2]
  refine⟨_,h',I,q,hq,⟨CK.refl I w,fun _ d=>.inl d,fun _ _ _ _ e=>e,k',hext⟩,?_,[],?_,Marks.nil _ _ _⟩
  ·simpa[ren,G0]using t2
  ·rw[Act.Dt,Act.Dt];rfl
 simp only[wpOpsIn,List.getElem?_toArray,List.getElem?_cons_zero,yt,if_true]
 have hnext:=run_next_at (P:=P) w o1.type bi bm since c0 ⟨seen⟩ ⟨es.map (Dl I)⟩ clock hheap bK (by
  intro y hy
  simp only[List.mem_map]at hy
  obtain⟨e,he,rfl⟩:=hy
  exact hold e he) hsc
 rcases hnext with⟨hz,hrun⟩|⟨e',he',w1,Aeg,hrun⟩
 ·have nY:(execOp act.eval o1).run P w= .ok (.value (ren I (.tuple ⟨[.bool false]⟩))) w:=by
   simp[execOp,h1,e2,hrun,ren,AX]
  refine IP hd1 nY (.inl rfl) ?_
  exact fin _ [] false h w rfl (by simp[C5]) k (Quiet.refl lo h) (Ext.refl I lo w) (hw0 (jj hz))
 ·obtain⟨e,he,rfl,hns⟩:=ji he'
  have hin:=ie e he
  have nY:(execOp act.eval o1).run P w= .ok (.value (ren I (.tuple ⟨[.bool true,e.key,e.val]⟩))) (ChangeMaps.setBlock w1 bi (.mapIter (some bm) since ((⟨seen⟩:Array Nat).push e.born) clock)):=by
   simp[execOp,h1,e2,hrun,ren,AX,Dl]
  refine IP hd1 nY (.inl rfl) ?_
  have De:But bi w (ChangeMaps.setBlock w1 bi (.mapIter (some bm) since ((⟨seen⟩:Array Nat).push e.born) clock)):=by
   rcases Aeg with rfl|rfl
   ·exact But.Ac8 _ _ _
   ·exact(But.Ac8 _ _ _).Ag0
  have hlt:bi<w1.heap.size:=by
   have:=k.size _ _ _ _ hat
   rcases Aeg with rfl|rfl<;>exact this
  have hnew:(ChangeMaps.setBlock w1 bi (.mapIter (some bm) since ((⟨seen⟩:Array Nat).push e.born) clock)).heap[bi]? =some (.mapIter (some bm) since ⟨seen++[e.born]⟩ clock):=by
   simp[ChangeMaps.setBlock,hlt]
  refine fin _ [e.key,e.val] true (h.put r (.iter m since (seen++[e.born]) clock)) _ rfl (by simp[C5,hin.1,hin.2]) ?_ ?_ (De.ext hlo hat hbase) (hw1 e he hns)
  ·exact k.store hbase ⟨_,_,hat⟩ De ⟨bi,bm,hat,hbase,jz,hnew⟩
  ·refine⟨Nat.le_refl _,fun r' hr'=>?_,fun hc r' hr'=>?_⟩
   ·simp only[H.put];rw[if_neg (by omega)]
   ·simp only[H.put]
    rw[if_neg]
    ·exact hc r' hr'
    ·rintro rfl
     have:=k.lt r' ⟨_,_,hp0⟩
     have:h.next<=r':=hr'
     omega

end AE

/- Code, compiled; its weakest precondition; a function's contract out of its body. -/
namespace AE
open Go Go.RowKit

def ku (ops:Array Oper) (xs:List A7):List (BH × BH):=
 let ms:=masks ops xs.length
 (List.range xs.length).flatMap fun j=>(List.range j).flatMap fun i=>match xs[i]?,xs[j]? with
  |some x,some y=>if ord ms i j||NT xs i j x y then[]else clash xs i j x y
  |_,_=>[]

def pS (P:Program) (n:Nat) (ops:Array Oper) (draw:Bool):Option Ay:=
 (DO P n ops ops.toList).bind fun xs=>if draw then(if qO ops xs (ku ops xs)then some (.BN xs (ku ops xs))else none)else some (.reg xs)

def A7.isT (x:A7):Bool:=match x.ins with|.call (.t _) _=>true|_=>false
def Zp (P:Program) (n:Nat) (ops:Array Oper):Option Ay:=
 (DO P n ops ops.toList).bind fun xs=>(xs.findIdx? A7.isT).bind fun c=>if pA ops c then(DO P n (ops.extract 0 c) (ops.extract 0 c).toList).bind fun xs1=>
  if qO (ops.extract 0 c) xs1 (ku (ops.extract 0 c) xs1)then some (.seq (.BN xs1 (ku (ops.extract 0 c) xs1)) (.reg (xs.drop c)))else none else none

def fR (n:Nat) (ops:Array Oper):Option Ay:=match ops.toList with
 | [o1,o2]=>match o1.op,o1.dst,o1.guard,o2.op,o2.dst,o2.guard with
   |.next x false,some a,none,.extract (.tmp a') 0,some b,none=>if a'=a/\a<n/\b<n then(Bw x).map fun x'=>.next x' a b else none
   |_,_,_,_,_,_=>none
 |_=>none
theorem NR {n:Nat}{ops:Array Oper}{A:Ay}(h:fR n ops=some A):∃o1 o2 x x' a b,ops.toList=[o1,o2]/\o1.op= .next x false/\o1.dst=some a/\o1.guard=none/\o2.op= .extract (.tmp a) 0/\o2.dst=some b/\o2.guard=none/\a<n/\b<n/\Bw x=some x'/\A= .next x' a b:=by
 unfold fR at h
 split at h
 ·rename_i o1 o2 ho
  split at h
  ·rename_i x a a' b h1 h2 h3 h4 h5 h6
   split at h
   ·rename_i hc
    obtain⟨rfl,ha,hb⟩:=hc
    simp only[Option.map_eq_some_iff]at h
    obtain⟨x',hx,rfl⟩:=h
    exact⟨o1,o2,x,x',a',b,ho,h1,h2,h3,h4,h5,h6,ha,hb,hx,rfl⟩
   ·simp at h
  ·simp at h
 ·simp at h

def Ay.Tm:Ay->Bool
 |.seq a b|.cond _ a b=>a.Tm&&b.Tm
 |.block _ c|.loop c=>c.Tm
 |.next _ _ _=>false
 |_=>true

def wz:Ay:=.cond (.c (.int .i64 0)) .skip .skip

def BX (P:Program) (n:Nat):Bool->Code->Option Ay
 |_,.skip=>some .skip
 |_,.label _=>some .skip
 |_,.ret=>some .ret
 |_,.exit id=>some (.exit id)
 |tp,.seq a b=>(BX P n tp a).bind fun x=>(BX P n tp b).map (.seq x)
 |tp,.cond c a b=>(Bw c).bind fun c'=>(BX P n tp a).bind fun x=>(BX P n tp b).map (.cond c' x)
 |tp,.block id c=>(BX P n tp c).map (.block id)
 |tp,.loop c=>(BX P n tp c).map .loop
 |tp,.scope c=>(BX P n tp c).bind fun A=>if A.Tm then some A else none
 | _,.region _ ops draw=>match(if draw then Zp P n ops else none)with
   |some A=>some A
   | none=>match pS P n ops draw with
     |some A=>some A
     |none=>if draw then none else fR n ops
 |tp,.rangeFunc f ps Ed body=>if tp=true/\ps.toList.all (fun p=>decide (p<n))=true then(Bw f).bind fun f'=>(BX P n false Ed).bind fun A=>(BX P n false body).map fun B=>.range f' ps.toList n Ed body A B else none
 |_,_=>some wz

def ET (P:Program) (n:Nat) (tp:Bool) (C:Code):Option Ay:=(BX P n tp C).bind fun A=>if A.Tm then some A else none
theorem NS {P:Program}{n:Nat}{tp:Bool}{C:Code}{A:Ay}(h:ET P n tp C=some A):BX P n tp C=some A/\A.Tm=true:=by
 simp only[ET,Option.bind_eq_some_iff]at h
 obtain⟨B,hB,h⟩:=h
 split at h
 ·rename_i hd
  simp only[Option.some.injEq]at h
  subst h
  exact⟨hB,hd⟩
 ·simp at h

def iter (F:(Ts->H->Prop)->Ts->H->Prop):Nat->Ts->H->Prop
 |0=>fun _ _=>False
 |k+1=>F (iter F k)

def Gy (P:Program) (lo:Nat):Ay->(Exit->Ts->H->Prop)->Ts->H->Prop
 |.skip,Q=>Q .normal
 |.ret,Q=>Q .ret
 |.exit id,Q=>Q (.exit id)
 |.seq a b,Q=>Gy P lo a (EW (Gy P lo b Q) Q)
 |.cond c a b,Q=>fun ts h=>∃t,ev ts c= .bool t/\if t=true then Gy P lo a Q ts h else Gy P lo b Q ts h
 |.block id c,Q=>Gy P lo c (EU id Q)
 |.loop c,Q=>fun ts h=>∃k,iter (fun K=>Gy P lo c (EW K Q)) k ts h
 |.reg ops,Q=>fun ts h=>Run P lo false h.next 0 ops (Q .normal) ts (h.bump ops.length)
 |.BN ops ap,Q=>fun ts h=>Run P lo true h.next 0 ops (fun ts' h'=>Apart ap ts'/\Q .normal ts' h') ts (h.bump ops.length)
 |.range f ps n Ed body _ _,Q=>fun ts h=>∃g first CL,ev ts f= .func (.func g) ⟨first⟩ ⟨CL⟩/\∃v h',AF P g lo (h.enter (EX n ts ps Ed body)) (first++[.func (.yield h.next) ⟨[]⟩ ⟨[]⟩]++CL) v h'/\
  ∃L,h'.get h.next=some (.loop L)/\L.state≠ .busy/\Q (FU L.pend) ts (h'.put h.next .gone)
 |.next x a b,Q=>nextQ lo x a b (Q .normal)

section
variable {P:Program}{n lo:Nat}

theorem WT.strong {T:Tr}{Q:Exit->Ts->H->Prop}{ts:Ts}{h:H}(a:WT T n lo Q ts h):WT T n lo (fun e ts' h'=>Q e ts' h'/\Quiet lo h h') ts h:=
 let⟨e,ts',h',q,hq,g⟩:=a;⟨e,ts',h',⟨q,hq⟩,hq,g⟩

def ng (Q:Exit->Ts->H->Prop):Exit->Ts->H->Prop:=fun e ts h=>(∀l,e≠ .goto l)/\Q e ts h

theorem Ns {P:Program}{n:Nat}{tp:Bool}{c:Code}{A:Ay}(h:BX P n tp (.scope c)=some A):BX P n tp c=some A/\A.Tm=true:=by
 simp only[BX,Option.bind_eq_some_iff]at h
 obtain⟨B,hB,h⟩:=h
 split at h
 ·rename_i hd
  simp only[Option.some.injEq]at h
  subst h
  exact⟨hB,hd⟩
 ·simp at h
theorem LB {P:Program}{n id:Nat}{tp draw:Bool}{ops:Array Oper}{A:Ay}(h:BX P n tp (.region id ops draw)=some A):(draw=true/\Zp P n ops=some A)\/pS P n ops draw=some A\/(draw=false/\fR n ops=some A):=by
 simp only[BX]at h
 split at h
 ·rename_i B hB
  split at hB
  ·rename_i hd
   exact .inl ⟨hd,by rw[hB];exact h⟩
  ·simp at hB
 ·right
  split at h
  ·rename_i B hB
   left;rw[hB];exact h
  ·split at h
   ·simp at h
   ·rename_i hd
    exact .inr ⟨by simpa using hd,h⟩
theorem uM {P:Program}{n lo id:Nat}{tp:Bool}{ops:Array Oper}{A:Ay}{Q:Exit->Ts->H->Prop}{ts:Ts}{h:H}(hm:P.follows .mixedOrders=true) (hc:Zp P n ops=some A) (hl:lo<=h.next) (hw:Gy P lo A Q ts h):WT (TC tp P (.region id ops true)) n lo (ng Q) ts h:=by
 simp only[Zp,Option.bind_eq_some_iff]at hc
 obtain⟨xs,hxs,c,hfc,hc⟩:=hc
 split at hc
 ·rename_i hcut
  simp only[Option.bind_eq_some_iff]at hc
  obtain⟨xs1,tJ,hc⟩:=hc
  split at hc
  ·rename_i hd
   simp only[Option.some.injEq]at hc
   subst hc
   have C:=Zc hcut
   have hcs:=C.inn
   refine(WT.Abq hm C hxs (by simp;omega) (fun i hi=>?_) tJ hd hl (Q:=fun e ts h=>e= .normal/\Q .normal ts h) ?_).mono ?_
   ·rw[Array.getElem?_extract]
    rw[if_pos (by omega)]
    simp
   ·simp only[Gy,EW]at hw
    simpa using hw
   ·rintro e ts' h' ⟨rfl,q⟩
    exact⟨by simp,q⟩
  ·simp at hc
 ·simp at hc
theorem pU {P:Program}{n:Nat}{ops:Array Oper}{A:Ay}(hc:Zp P n ops=some A):A.Tm=true:=by
 simp only[Zp,Option.bind_eq_some_iff]at hc
 obtain⟨xs,hxs,c,hfc,hc⟩:=hc
 split at hc
 ·simp only[Option.bind_eq_some_iff]at hc
  obtain⟨xs1,tJ,hc⟩:=hc
  split at hc
  ·simp only[Option.some.injEq]at hc
   subst hc;rfl
  ·simp at hc
 ·simp at hc

theorem lj (hm:P.follows .mixedOrders=true):∀(C:Code) (tp:Bool) (A:Ay) (Q:Exit->Ts->H->Prop) (ts:Ts) (h:H),BX P n tp C=some A->A.Tm=true->lo<=h.next->Gy P lo A Q ts h->WT (TC tp P C) n lo (ng Q) ts h:=by
 intro C
 induction C with
 |skip=>intro tp A Q ts h hc hd hl hw;simp[BX]at hc;subst hc;exact WT.skip ⟨by simp,hw⟩
 |label l=>intro tp A Q ts h hc hd hl hw;simp[BX]at hc;subst hc;exact WT.label ⟨by simp,hw⟩
 |ret=>intro tp A Q ts h hc hd hl hw;simp[BX]at hc;subst hc;exact WT.ret ⟨by simp,hw⟩
 |exit id=>intro tp A Q ts h hc hd hl hw;simp[BX]at hc;subst hc;exact WT.exit ⟨by simp,hw⟩
 | scope c ih=>
   intro tp A Q ts h hc hd hl hw
   refine WT.scope ((ih tp A Q ts h (Ns hc).1 hd hl hw).mono ?_)
   rintro e ts' h' ⟨hg,q⟩
   exact⟨hg,hg,q⟩
 | seq x y WC ihy=>
   intro tp A Q ts h hc hd hl hw
   simp only[BX,Option.bind_eq_some_iff,Option.map_eq_some_iff]at hc
   obtain⟨a,ha,b,hb,rfl⟩:=hc
   simp only[Ay.Tm,Bool.and_eq_true]at hd
   refine WT.seq ((WC tp a _ ts h ha hd.1 hl hw).strong.mono ?_)
   rintro e ts' h' ⟨⟨hg,q⟩,hq⟩
   cases e<;>first|exact⟨hg,q⟩|exact ihy tp b Q ts' h' hb hd.2 (Nat.le_trans hl hq.next) q
 | cond c x y WC ihy=>
   intro tp A Q ts h hc hd hl hw
   simp only[BX,Option.bind_eq_some_iff,Option.map_eq_some_iff]at hc
   obtain⟨c',hc',a,ha,b,hb,rfl⟩:=hc
   simp only[Ay.Tm,Bool.and_eq_true]at hd
   obtain⟨t,ht,hw⟩:=hw
   refine WT.cond hc' ht ?_
   cases t
   ·exact ihy tp b Q ts h hb hd.2 hl (by simpa using hw)
   ·exact WC tp a Q ts h ha hd.1 hl (by simpa using hw)
 | block id c ih=>
   intro tp A Q ts h hc hd hl hw
   simp only[BX,Option.map_eq_some_iff]at hc
   obtain⟨a,ha,rfl⟩:=hc
   refine WT.block ((ih tp a _ ts h ha (by simpa[Ay.Tm]using hd) hl hw).mono ?_)
   rintro e ts' h' ⟨hg,q⟩
   cases e<;>first|exact⟨hg,q⟩|skip
   rename_i id'
   simp only[EU]at q⊢
   split
   ·rename_i hid;rw[if_pos hid]at q;exact⟨by simp,q⟩
   ·rename_i hid;rw[if_neg hid]at q;exact⟨by simp,q⟩
 | loop c ih=>
   intro tp A Q ts h hc hd hl hw
   simp only[BX,Option.map_eq_some_iff]at hc
   obtain⟨a,ha,rfl⟩:=hc
   obtain⟨k,hw⟩:=hw
   refine WT.loop ?_
   induction k generalizing ts h with
   |zero=>exact hw.elim
   | succ k ihk=>
     refine WT.round ((ih tp a _ ts h ha (by simpa[Ay.Tm]using hd) hl hw).strong.mono ?_)
     rintro e ts' h' ⟨⟨hg,q⟩,hq⟩
     cases e<;>first|exact⟨hg,q⟩|exact ihk ts' h' (Nat.le_trans hl hq.next) q
 | region id ops draw=>
   intro tp A Q ts h hc hd hl hw
   rcases LB hc with⟨rfl,hc2⟩|hc2
   ·exact uM hm hc2 hl hw
   clear hc
   rcases hc2 with hc|hc
   case inr=>
    obtain⟨_,_,_,_,_,_,_,_,_,_,_,_,_,_,_,_,rfl⟩:=NR hc.2
    simp[Ay.Tm]at hd
   simp only[pS,Option.bind_eq_some_iff]at hc
   obtain⟨xs,hxs,hc⟩:=hc
   cases draw
   ·simp at hc;subst hc
    refine(WT.reg hxs hl (Q:=fun e ts h=>e= .normal/\Q .normal ts h) (q:=false) (by simp only[Gy]at hw;simpa using hw)).mono ?_
    rintro e ts' h' ⟨rfl,q⟩
    exact⟨by simp,q⟩
   ·simp only[if_true]at hc
    split at hc
    ·rename_i hdd
     simp at hc;subst hc
     refine(WT.BN hm hxs hdd hl (Q:=fun e ts h=>e= .normal/\Q .normal ts h) (by simp only[Gy]at hw;simpa using hw)).mono ?_
     rintro e ts' h' ⟨rfl,q⟩
     exact⟨by simp,q⟩
    ·simp at hc
 | rangeFunc f ps x y WC ihy=>
   intro tp A Q ts h hc hd hl hw
   simp only[BX]at hc
   split at hc
   ·rename_i htp
    obtain⟨rfl, -⟩:=htp
    simp only[Option.bind_eq_some_iff,Option.map_eq_some_iff]at hc
    obtain⟨f',hf,a,ha,b,hb,rfl⟩:=hc
    obtain⟨g,first,CL,hv,v,h',haf,L,hL,hs,q⟩:=hw
    obtain⟨ps⟩:=ps
    exact WT.range hf hv hl haf hL hs ⟨by cases L.pend<;>simp[FU],q⟩
   ·simp at hc
 |_=>intro tp A Q ts h hc hd hl hw;simp[BX]at hc;subst hc;obtain⟨t,ht, -⟩:=hw;simp[ev]at ht

theorem lh (hm:P.follows .mixedOrders=true):∀(C:Code) (tp:Bool) (A:Ay) (Q:Exit->Ts->H->Prop) (ts:Ts) (h:H),BX P n tp C=some A->lo<=h.next->Gy P lo A Q ts h->WD (TC tp P C) n lo Q ts h:=by
 intro C
 have leaf:∀(C:Code) (tp:Bool) (A:Ay) (Q:Exit->Ts->H->Prop) (ts:Ts) (h:H),BX P n tp C=some A->A.Tm=true->lo<=h.next->Gy P lo A Q ts h->WD (TC tp P C) n lo Q ts h:=fun C tp A Q ts h hc hd hl hw=>
  ((lj hm C tp A Q ts h hc hd hl hw).wd (B0 tp P C)).mono (B0 tp P C) fun _ _ _ q=>q.2
 induction C with
 | seq x y WC ihy=>
   intro tp A Q ts h hc hl hw
   simp only[BX,Option.bind_eq_some_iff,Option.map_eq_some_iff]at hc
   obtain⟨a,ha,b,hb,rfl⟩:=hc
   refine WD.seq (((WC tp a _ ts h ha hl hw).strong (B0 tp P x)).mono (B0 tp P x) ?_)
   rintro e ts' h' ⟨q,hq⟩
   cases e<;>first|exact q|exact ihy tp b Q ts' h' hb (Nat.le_trans hl hq.next) q
 | cond c x y WC ihy=>
   intro tp A Q ts h hc hl hw
   simp only[BX,Option.bind_eq_some_iff,Option.map_eq_some_iff]at hc
   obtain⟨c',hc',a,ha,b,hb,rfl⟩:=hc
   obtain⟨t,ht,hw⟩:=hw
   refine WD.cond hc' ht ?_
   cases t
   ·exact ihy tp b Q ts h hb hl (by simpa using hw)
   ·exact WC tp a Q ts h ha hl (by simpa using hw)
 | block id c ih=>
   intro tp A Q ts h hc hl hw
   simp only[BX,Option.map_eq_some_iff]at hc
   obtain⟨a,ha,rfl⟩:=hc
   exact WD.block (ih tp a _ ts h ha hl hw)
 | loop c ih=>
   intro tp A Q ts h hc hl hw
   simp only[BX,Option.map_eq_some_iff]at hc
   obtain⟨a,ha,rfl⟩:=hc
   obtain⟨k,hw⟩:=hw
   refine WD.loop ?_
   induction k generalizing ts h with
   |zero=>exact hw.elim
   | succ k ihk=>
     refine WD.round (((ih tp a _ ts h ha hl hw).strong (B0 tp P c)).mono (B0 tp P c) ?_)
     rintro e ts' h' ⟨q,hq⟩
     cases e<;>first|exact q|exact ihk ts' h' (Nat.le_trans hl hq.next) q
 | region id ops draw=>
   intro tp A Q ts h hc hl hw
   by_cases hd:A.Tm=true
   ·exact leaf _ tp A Q ts h hc hd hl hw
   ·rcases LB hc with⟨-,hc⟩|hc|hc
    ·exact absurd (pU hc) hd
    ·exfalso
     simp only[pS,Option.bind_eq_some_iff]at hc
     obtain⟨xs, -,hc⟩:=hc
     split at hc
     ·split at hc<;>simp at hc
      subst hc;simp[Ay.Tm]at hd
     ·simp at hc;subst hc;simp[Ay.Tm]at hd
    ·obtain⟨hdr,hc⟩:=hc
     obtain⟨o1,o2,x,x',a,b,ho,h1,d1,g1,h2,d2,g2,ha,hb,hx,rfl⟩:=NR hc
     subst hdr
     exact WD.next ho h1 d1 g1 h2 d2 g2 ha hb hx hw
 | scope c ih=>
   intro tp A Q ts h hc hl hw
   refine leaf _ tp A Q ts h hc ?_ hl hw
   exact(Ns hc).2
 |skip=>intro tp A Q ts h hc hl hw;exact leaf _ tp A Q ts h hc (by simp[BX]at hc;subst hc;rfl) hl hw
 |label l=>intro tp A Q ts h hc hl hw;exact leaf _ tp A Q ts h hc (by simp[BX]at hc;subst hc;rfl) hl hw
 |ret=>intro tp A Q ts h hc hl hw;exact leaf _ tp A Q ts h hc (by simp[BX]at hc;subst hc;rfl) hl hw
 |exit id=>intro tp A Q ts h hc hl hw;exact leaf _ tp A Q ts h hc (by simp[BX]at hc;subst hc;rfl) hl hw
 | rangeFunc f ps x y WC ihy=>
   intro tp A Q ts h hc hl hw
   refine leaf _ tp A Q ts h hc ?_ hl hw
   simp only[BX]at hc
   split at hc
   ·simp only[Option.bind_eq_some_iff,Option.map_eq_some_iff]at hc
    obtain⟨f',hf,a,ha,b,hb,rfl⟩:=hc
    rfl
   ·simp at hc
 |_=>intro tp A Q ts h hc hl hw;simp[BX]at hc;subst hc;obtain⟨t,ht, -⟩:=hw;simp[ev]at ht

theorem Po (hm:P.follows .mixedOrders=true) (C:Code) (A:Ay) (Q:Exit->Ts->H->Prop) (ts:Ts) (h:H) {tp:Bool}(hc:ET P n tp C=some A) (hl:lo<=h.next) (hw:Gy P lo A Q ts h):WT (TC tp P C) n lo Q ts h:=
 (lj hm C tp A Q ts h (NS hc).1 (NS hc).2 hl hw).mono fun _ _ _ q=>q.2

def YA (P:Program) (lo r:Nat) (A B:Ay) (L:F3) (args:List Value) (h:H) (R:Value->H->Prop):Prop:=
 Gy P lo A (fun e Iy h1=>e= .normal/\∃L1,h1.get r=some (.loop L1)/\L1.state= .ready/\
  Gy P lo B (fun e _ h2=>∃p L2,roundEnd e=some p/\h2.get r=some (.loop L2)/\R (.bool (M8 p)) (h2.put r (.loop (ended L2 p)))) Iy (h1.put r (.loop (busy L1)))) (Jy L.params args L.tmps) h

theorem YA.call (hm:P.follows .mixedOrders=true) {r:Nat}{A B:Ay}{L:F3}{args:List Value}{h:H}{R:Value->H->Prop}(hA:ET P L.size false L.Ed=some A) (hB:ET P L.size false L.body=some B) (hg:h.get r=some (.loop L))
 (hlo:lo<=r) (hr:r<h.next) (hlen:args.length=L.params.length) (hps:L.params.all (fun p=>decide (p<L.size))=true) (hw:YA P lo r A B L args h R):∃v h',R v h'/\CX P (.func (.yield r) ⟨[]⟩ ⟨[]⟩) lo h args v h':=by
 refine ZR hg hlo hr hlen (fun p hp=>by simpa using List.all_eq_true.1 hps p hp) ?_
 refine(Po hm _ A _ _ _ hA (by omega) hw).strong.mono ?_
 rintro e Iy h1 ⟨⟨rfl,L1,hg1,hs1,hw1⟩,hq1⟩
 refine⟨rfl,L1,hg1,hs1,Po hm _ B _ _ _ (by exact hB) ?_ hw1⟩
 have:=hq1.next
 show lo<=h1.next
 omega


def V7 (r:Nat):Code->Option (Array Oper)
 |.region id ops _=>if id=r then some ops else none
 |.seq a b|.cond _ a b|.rangeFunc _ _ a b=>(V7 r a).orElse fun _=>V7 r b
 |.block _ c|.loop c|.scope c=>V7 r c
 |_=>none
def Fa (f:Func) (r i:Nat):Oper:=((f.body.bind (V7 r)).bind (·[i]?)).getD default
def rfs:Code->List (Code × Code)
 |.rangeFunc _ _ a b=>(a,b)::(rfs a++rfs b)
 |.seq a b|.cond _ a b=>rfs a++rfs b
 |.block _ c|.loop c|.scope c=>rfs c
 |_=>[]
def He (f:Func) (i:Nat):Code × Code:=((f.body.bind fun c=>(rfs c)[i]?)).getD (.skip,.skip)


def FZ (P:Program) (h:H) (ts:Ts):ResultVar->Option Value
 |.tmp t=>some (ts t)
 | .cell a t=>match Dc P t with
   |some true=>(sizeT P t).bind fun n=>JQ n h (ts a)
   |some false=>JR h (ts a)
   |none=>none
def Hg (P:Program) (h:H) (ts:Ts):List ResultVar->Option Value
 |[]=>some (.tuple #[])
 |[r]=>FZ P h ts r
 |[r,s]=>(FZ P h ts r).bind fun x=>(FZ P h ts s).map fun y=>.tuple #[x,y]
 |[r,s,t]=>(FZ P h ts r).bind fun x=>(FZ P h ts s).bind fun y=>(FZ P h ts t).map fun z=>.tuple #[x,y,z]
 |_=>none

def res1 (tmps:Array Value):ResultVar->Sem Value
 |.tmp t=>pure (tmps.getD t undef)
 |.cell a t=>do loadVar t (<-asAddr (tmps.getD a undef))

theorem J4 {I:AZ}{ts:Ts}{h:H}{w:World}{tmps:Array Value}{r:ResultVar}{v:Value}(t:Cu I n ts tmps) (k:Rel I h w) (hv:FZ P h ts r=some v):In I v/\(res1 tmps r).run P w= .ok (ren I v) w:=by
 cases r with
 | tmp i=>
   simp[FZ]at hv;subst hv
   exact⟨(t.2 i).2,by simp[res1,(t.2 i).1]⟩
 | cell a ty=>
   have t':Cu I n ts (Act.mk tmps []).tmps:=t
   have hev:=t'.ev
   have hrow:∀a' row,ev ts (.t a)= .pointer (some a')->h.get a'.block=some row->Ci I a'.block w row:=fun a' row hp hg=>by
    have:=(t.2 a).2
    simp only[ev]at hp
    rw[hp]at this
    exact k.rows _ _ hg (BK (by simpa only[In]using this))
   have hp:∀b,(ts a)= .pointer (some b)->∃c,tmps.getD a undef= .pointer (some c):=fun b hb=>by
    have h1:=(t.2 a).1
    have h2:=(t.2 a).2
    rw[hb]at h1 h2
    simp only[In]at h2
    obtain⟨c,hc⟩:=Ek h2
    exact⟨c,by rw[h1];simp[ren,hc]⟩
   simp only[FZ]at hv
   have fin:∀b,ts a= .pointer (some b)->In I v/\(execOp (Act.mk tmps []).eval {(default:Oper)with op:=.load ty (.tmp a)}).run P w= .ok (.value (ren I v)) w->In I v/\(res1 tmps (.cell a ty)).run P w= .ok (ren I v) w:=by
    rintro b hb ⟨h1,h2⟩
    refine⟨h1,?_⟩
    obtain⟨c,hc⟩:=hp b hb
    simp only[execOp,Act.eval,hc,Instr.loadAt,Instr.sureAddr,Sem.run_bind,Sem.run_pure,Result.andThen_ok]at h2
    simp only[res1,hc,asAddr,Sem.run_bind,Sem.run_pure,Result.andThen_ok]
    cases hr:(loadVar ty c).run P w with
    |ok x w'=>rw[hr]at h2;simp at h2;simp[h2]
    |halt x w'=>rw[hr]at h2;simp at h2
   split at hv
   ·rename_i ht
    simp only[Option.bind_eq_some_iff]at hv
    obtain⟨m,hsz,hv⟩:=hv
    have hb:∃b,ts a= .pointer (some b):=by
     unfold JQ at hv;split at hv
     ·rename_i b hb;exact⟨b,hb⟩
     ·simp at hv
    obtain⟨b,hb⟩:=hb
    exact fin b hb (UE hev (o:={(default:Oper)with op:=.load ty (.tmp a)}) rfl ht hsz (x:=.tmp a) (x':=.t a) rfl hv hrow)
   ·rename_i ht
    have hb:∃b,ts a= .pointer (some b):=by
     unfold JR at hv;split at hv
     ·rename_i b hb;exact⟨b,hb⟩
     ·simp at hv
    obtain⟨b,hb⟩:=hb
    exact fin b hb (UF hev (o:={(default:Oper)with op:=.load ty (.tmp a)}) rfl ht (x:=.tmp a) (x':=.t a) rfl hv hrow)
   ·simp at hv

theorem Jz {fn:Func}{rs:List ResultVar}(hf:fn.results=⟨rs⟩) {I:AZ}{ts:Ts}{h:H}{w:World}{tmps:Array Value}{v:Value}(t:Cu I n ts tmps) (k:Rel I h w) (hv:Hg P h ts rs=some v):
 In I v/\(results fn tmps).run P w= .ok (ren I v) w:=by
 have hres:results fn tmps=(do let vs<-fn.results.mapM (res1 tmps);pure (if h:vs.size=1 then vs[0]else .tuple vs)):=by
  have e:res1 tmps=fun r=>(match r with
   |.tmp t=>pure (tmps.getD t undef)
   |.cell a t=>do loadVar t (<-asAddr (tmps.getD a undef)):Sem Value):=by
   funext r
   cases r<;>rfl
  unfold results
  rw[e]
  rfl
 rw[hres,hf]
 match rs,hv with
 | [],hv=>
   simp[Hg]at hv;subst hv
   exact⟨by simp[In,C5],by simp[ren,AX]⟩
 | [r],hv=>
   obtain⟨i1,r1⟩:=J4 t k hv
   exact⟨i1,by simp[r1]⟩
 | [r,s],hv=>
   simp only[Hg,Option.bind_eq_some_iff,Option.map_eq_some_iff]at hv
   obtain⟨x,hx,y,hy,rfl⟩:=hv
   obtain⟨i1,r1⟩:=J4 t k hx
   obtain⟨i2,r2⟩:=J4 t k hy
   exact⟨by simp[In,C5,i1,i2],by simp[r1,r2,ren,AX]⟩
 | [r,s,q],hv=>
   simp only[Hg,Option.bind_eq_some_iff,Option.map_eq_some_iff]at hv
   obtain⟨x,hx,y,hy,z,hz,rfl⟩:=hv
   obtain⟨i1,r1⟩:=J4 t k hx
   obtain⟨i2,r2⟩:=J4 t k hy
   obtain⟨i3,r3⟩:=J4 t k hz
   exact⟨by simp[In,C5,i1,i2,i3],by simp[r1,r2,r3,ren,AX]⟩

structure Cf (P:Program) (f:FuncId) (n nargs:Nat) (A:Ay) (rs:List ResultVar):Prop where
 mixed:P.follows .mixedOrders=true
 ex:∃fn c,P.funcs[f]? =some fn/\fn.body=some c/\fn.ntmps=n/\nargs<=n/\fn.results=⟨rs⟩/\ET P n true c=some A/\(fn.name== "runtime.NumGoroutine")=false

def Js (args:List Value):Ts:=fun i=>(args[i]?).getD undef

theorem ig {I J:AZ}{h':H}{w0 w:World}{b lo:Nat}(hb:w.heap[b]? =some (.deferred (some []))) (hnew:w0.heap.size<=b) (hout:∀r s d,J.at_ r s≠some (b,d)) (k:Rel J h' w) (e:Ext I lo w0 w):
 ∃w',(Instr.takeDeferred b).run P w= .ok [] w'/\Rel J h' w'/\Ext I lo w0 w'/\But b w w':=by
 refine⟨{w with heap:=w.heap.setIfInBounds b (.deferred none)},?_,?_⟩
 ·simp[Instr.takeDeferred,getObj,setObj,Sem.run,hb]
 ·have De:But b w {w with heap:=w.heap.setIfInBounds b (.deferred none)}:=⟨rfl,rfl,rfl,by simp,fun j hj=>by simp[Array.getElem?_setIfInBounds_ne (Ne.symm hj)]⟩
  refine⟨⟨fun r row hr d=>(k.rows r row hr d).le (Le.refl J) (fun _ _ e=>e) (fun b' ⟨s,d,hb'⟩=>De.block b' (fun e=>hout r s d (e▸hb'))),k.lt,fun r s b' d e'=>by rw[De.size];exact k.size _ _ _ _ e',by rw[De.size];exact k.base,fun x hx=>let⟨h1,e1,fr,h2⟩:=k.tabs x hx;⟨h1,e1,fr,(De.block x.1 (fun e=>by rw[e,hb]at h2;simp at h2)).trans h2⟩,k.inj,k.clean⟩,
   ⟨e.os,e.tape,e.output,by rw[De.size];exact e.size,fun b' hb' hr=>?_⟩,De⟩
  rw[De.block b' (by omega),e.block b' hb' hr]

theorem HO {fn:Func}{tmps:Array Value}{R:Ending->World->Prop}{I J:AZ}{h':H}{w0:World}(hR:∀w,Rel J h' w->Ext I lo w0 w->∃v,(results fn tmps).run P w= .ok v w/\R (.returned v) w):
 ∀(ms:List Deferred) (w:World),Rel J h' w->Ext I lo w0 w->Marks J w0 w ms->LeavesInM Fence.wide 0 P fn tmps R ms .returning w
 |[],w,k,e,_=>hR w k e
 | m::ms,w,k,e,hm=>by
   obtain⟨b,hmb,hnew,hlt,hheap,hout⟩:=hm.each m (by simp)
   obtain⟨w',hrun,k',e',De⟩:=ig (P:=P) hheap hnew hout k e
   refine⟨by simp,.inl ⟨b,w',by rw[hmb],hrun,HO hR ms w' k' e' ⟨fun m' hm'=>?_,(List.pairwise_cons.1 hm.apart).2⟩⟩⟩
   obtain⟨b',h1,h2,h3,h4,h5⟩:=hm.each m' (by simp[hm'])
   have hne:b'≠b:=fun eq=>(List.pairwise_cons.1 hm.apart).1 m' hm' (by rw[hmb,h1,eq])
   exact⟨b',h1,h2,by rw[De.size];exact h3,by rw[De.block b' hne];exact h4,h5⟩

def AW (P:Program) (f:FuncId) (lo:Nat) (h:H) (args:List Value) (R:Value->H->Prop):Prop:=∃v h',R v h'/\AF P f lo h args v h'

theorem Cf.call {f:FuncId}{nargs:Nat}{A:Ay}{rs:List ResultVar}(F:Cf P f n nargs A rs) {h:H}{args:List Value}{R:Value->H->Prop}(ha:args.length=nargs) (hlo:lo<=h.next)
 (hw:Gy P lo A (fun e ts h'=>(e= .normal\/e= .ret)/\∃v,Hg P h' ts rs=some v/\R v h') (Js args) h):AW P f lo h args R:=by
 obtain⟨fn,c,hf,hb,hn,hna,hrs,hcc,hname⟩:=F.ex
 obtain⟨e,ts',h',⟨he,v,hv,hR⟩,hq,hg⟩:=Po F.mixed c A _ _ _ hcc hlo hw
 refine⟨v,h',hR,hq,fun as w=>?_,fun I w k ia=>?_⟩
 ·have hne:¬fn.name= "runtime.NumGoroutine" :=by simpa using hname
  simp[callFunc,hf,hne,hb,program,Sem.run]
 ·refine callsIn_wide.1 (callsIn_of_wp_marks (F:=Fence.wide) (n:=0) hf hb trivial ?_)
  have ht:Cu I n (Js args) ((⟨AX I args⟩:Array Value)++Array.replicate (fn.ntmps - (⟨AX I args⟩:Array Value).size) undef):=by
   refine⟨by simp;omega,fun i=>?_⟩
   rw[Array.getD_eq_getD_getElem?,Array.getElem?_append]
   by_cases hi:i<args.length
   ·simp only[List.size_toArray,Cw,hi,if_true,List.getElem?_toArray,Dm,Js,List.getElem?_eq_getElem hi,Option.map_some,Option.getD_some]
    exact⟨trivial,Gm ia (List.getElem?_eq_getElem hi)⟩
   ·simp only[List.size_toArray,Cw,hi,if_false,Js,List.getElem?_eq_none (Nat.le_of_not_lt hi),Option.getD_none]
    refine⟨?_,(Dr I).2⟩
    rw[(Dr I).1,Array.getElem?_replicate]
    split<;>rfl
  have:=hg none I w ⟨_,[]⟩ k ht (fun _=>rfl)
  refine Go.wpIn_mono this ?_
  rintro e' a' w' ⟨rfl,J,BZ,t',ms,hd,hms⟩
  simp only[List.append_nil]at hd
  have hleave:LeavesInM Fence.wide 0 P fn a'.tmps (fun e w'=>∃J,Dk I J lo h.next h' w w'/\In J v/\e= .returned (ren J v)) ms .returning w':=by
   refine HO (I:=I) (J:=J) (h':=h') (lo:=lo) (fun w2 k2 e2=>?_) ms w' BZ.rel BZ.ext hms
   obtain⟨iv,hrun⟩:=Jz (P:=P) hrs t' k2 hv
   exact⟨_,hrun,J,⟨BZ.grows,BZ.dom,BZ.old,k2,e2⟩,iv,rfl⟩
  rcases he with rfl|rfl
  ·simp only[bodyPostM,hd];exact hleave
  ·simp only[bodyPostM,hd];exact hleave

end

structure ZF (P:Program) (f:FuncId) (n nargs:Nat) (A:Ay) (rs:List ResultVar):Prop where
 mixed:P.follows .mixedOrders=true
 ex:∃fn c,P.funcs[f]? =some fn/\fn.body=some c/\fn.ntmps=n/\nargs<=n/\fn.results=⟨rs⟩/\BX P n true c=some A/\(fn.name== "runtime.NumGoroutine")=false

theorem cK {P:Program}{f:FuncId}{fn:Func}{c:Code}{n nargs lo:Nat}{rs:List ResultVar}{h:H}{args:List Value}{v:Value}(hf:P.funcs[f]? =some fn) (hb:fn.body=some c) (hn:fn.ntmps=n) (hna:nargs<=n) (hrs:fn.results=⟨rs⟩) (hname:(fn.name== "runtime.NumGoroutine")=false)
 (ha:args.length=nargs) (hin:∀J:AZ,In J v->In (J.below h.next) v)
 (hw:WD (TC true P c) n lo (fun e ts h'=>(e= .normal\/e= .ret)/\Hg P h' ts rs=some v/\∀r,r<h.next->h'.get r=h.get r) (Js args) h):AF P f lo h args v h:=by
 refine⟨Quiet.refl lo h,fun as w=>?_,fun I w k ia=>?_⟩
 ·have hne:¬fn.name= "runtime.NumGoroutine" :=by simpa using hname
  simp[callFunc,hf,hne,hb,program,Sem.run]
 ·refine callsIn_wide.1 (callsIn_of_wp_marks (F:=Fence.wide) (n:=0) hf hb trivial ?_)
  have ht:Cu I n (Js args) ((⟨AX I args⟩:Array Value)++Array.replicate (fn.ntmps - (⟨AX I args⟩:Array Value).size) undef):=by
   refine⟨by simp;omega,fun i=>?_⟩
   rw[Array.getD_eq_getD_getElem?,Array.getElem?_append]
   by_cases hi:i<args.length
   ·simp only[List.size_toArray,Cw,hi,if_true,List.getElem?_toArray,Dm,Js,List.getElem?_eq_getElem hi,Option.map_some,Option.getD_some]
    exact⟨trivial,Gm ia (List.getElem?_eq_getElem hi)⟩
   ·simp only[List.size_toArray,Cw,hi,if_false,Js,List.getElem?_eq_none (Nat.le_of_not_lt hi),Option.getD_none]
    refine⟨?_,(Dr I).2⟩
    rw[(Dr I).1,Array.getElem?_replicate]
    split<;>rfl
  have:=hw none I w ⟨_,[]⟩ k ht (fun _=>rfl)
  refine Go.wpIn_mono this ?_
  rintro e' a' w' ⟨ts',h',J,⟨he,hv,hs⟩,hq,BZ,t',ms,hd,hms⟩
  simp only[List.append_nil]at hd
  have hleave:LeavesInM Fence.wide 0 P fn a'.tmps (fun e w'=>∃J,Dk I J lo h.next h w w'/\In J v/\e= .returned (ren J v)) ms .returning w':=by
   refine HO (I:=I) (J:=J) (h':=h') (lo:=lo) (fun w2 k2 e2=>?_) ms w' BZ.rel BZ.ext hms
   obtain⟨iv,hrun⟩:=Jz (P:=P) hrs t' k2 hv
   have W:Dk I J lo h.next h' w w2:=⟨BZ.grows,BZ.dom,BZ.old,k2,e2⟩
   exact⟨_,hrun,J.below h.next,W.below k hs,hin J iv,by rw[<-((J.below_le h.next).ren v (hin J iv)).1]⟩
  rcases he with rfl|rfl
  ·simp only[bodyPostM,hd];exact hleave
  ·simp only[bodyPostM,hd];exact hleave


theorem ZF.call {P:Program}{n:Nat}{f:FuncId}{nargs:Nat}{A:Ay}{rs:List ResultVar}(F:ZF P f n nargs A rs) {lo:Nat}{h:H}{args:List Value}{v:Value}(ha:args.length=nargs) (hlo:lo<=h.next) (hin:∀J:AZ,In J v->In (J.below h.next) v)
 (hw:Gy P lo A (fun e ts h'=>(e= .normal\/e= .ret)/\Hg P h' ts rs=some v/\∀r,r<h.next->h'.get r=h.get r) (Js args) h):AW P f lo h args (fun w _=>w=v):=by
 obtain⟨fn,c,hf,hb,hn,hna,hrs,hcc,hname⟩:=F.ex
 exact⟨v,h,rfl,cK hf hb hn hna hrs hname ha hin (lh F.mixed c true A _ _ _ hcc hlo hw)⟩

end AE
