/- Walks and plain laws: AgreeSpec3, T9Oc, T9Ob, T9Oa. -/
import Derived.Test.YtneenfjffejnoaaGreatJoin39
import Derived.KernelRfl
import Derived.Test.YtneenfjffejnoaaGreatJoin29
set_option linter.unusedVariables false
set_option linter.unusedSimpArgs false
set_option linter.unusedSectionVars false

/- The plain law of agree: the order of bounds, how great numbers become, and what the statements say of tables that are changed. -/
set_option linter.unusedVariables false
namespace AgreeS


def pre (B:Net) (f t:Nat):List Step:=((List.range f).flatMap fun f=>FB B f (List.range 13))++FB B f (List.range t)
theorem Ou (B:Net) (f:Nat):pre B (f+1) 0=pre B f 13:=by
 simp[pre,List.range_succ,FB]
theorem eo (B:Net):pre B 13 0=steps B:=by simp[pre,steps,FB]
theorem pre_some {B:Net}{f t:Nat}{m:Int}(h:B f t=some m):pre B f (t+1)=pre B f t++[⟨f,t,m⟩]:=by
 simp[pre,List.range_succ,FB,h]
theorem pre_none {B:Net}{f t:Nat}(h:B f t=none):pre B f (t+1)=pre B f t:=by
 simp[pre,List.range_succ,FB,h]
theorem d6 {B:Net}{f:Nat}:∀(t:Nat),(∀i,i<t->B f i=none)->pre B f t=pre B f 0
 |0,_=>rfl
 |t+1,h=>by rw[pre_none (h t Al),d6 t fun i hi=>h i Al]
theorem sC (B:Net) (f t:Nat):pre B f t <+: pre B f (t+1):=by
 cases h:B f t with
 |none=>rw[pre_none h];exact List.prefix_refl _
 |some m=>rw[pre_some h];exact List.prefix_append _ _
theorem Nu (B:Net) (f:Nat):∀k t,t+k=13->pre B f t <+: pre B f 13
 | 0, t, h => by obtain rfl:t=13:=by omega
                 exact List.prefix_refl _
 |k+1,t,h=>(sC B f t).trans (Nu B f k (t+1) Al)
theorem mB (B:Net):∀k f,f+k=13->pre B f 0 <+: steps B
 | 0, f, h => by obtain rfl:f=13:=by omega
                 rw[eo];exact List.prefix_refl _
 | k+1,f,h=>by
   have:=mB B k (f+1) Al
   rw[Ou]at this
   exact(Nu B f 13 0 rfl).trans this
theorem iQ {B:Net}{f t:Nat}{m:Int}(hf:f<13) (ht:t<13) (h:B f t=some m):∃rest,pre B f t++⟨f,t,m⟩::rest=steps B:=by
 have h1:=Nu B f (12 - t) (t+1) Al
 have h2:=mB B (12 - f) (f+1) Al
 rw[Ou]at h2
 obtain⟨r,hr⟩:=h1.trans h2
 rw[pre_some h]at hr
 exact⟨r,by simpa using hr⟩
theorem UA (B:Net):(steps B).length<=169:=by
 have row:∀f (l:List Nat),(FB B f l).length<=l.length:=fun f l=>by unfold FB;exact List.length_filterMap_le _ _
 have all:∀l:List Nat,(l.flatMap fun f=>FB B f (List.range 13)).length<=l.length*13:=by
  intro l
  induction l with
  |nil=>simp
  | cons f l ih=>
    have:=row f (List.range 13)
    simp only[List.flatMap_cons,List.length_append,List.length_cons,List.length_range]at*
    omega
 have:=all (List.range 13)
 simpa[steps]using this


def Small (n:Nat) (k:Known):Prop:=∀v c,k v=some c-> -(n*M)<=c/\c<=n*M
theorem Small.mono {n m:Nat}{k:Known}(h:Small n k) (hnm:n<=m):Small m k:=fun v c e=>by
 have:=h v c e
 have:(n:Int) *M<=m*M:=Int.mul_le_mul_of_nonneg_right Al (by simp[M])
 omega
theorem XK (a:Nat):Small 0 (start a).known:=fun v c h=>by
 simp only[start]at h
 split at h
 ·simp at h;subst h;simp
 ·simp at h
theorem Small.relax {N n:Nat}{B:Net}(hB:ZD N B) {x:St}{s:Step}(hs:s∈steps B) (h:Small n x.known):Small (n+1) (AgreeS.relax x s).known:=by
 obtain⟨h1,h2,h3⟩:=Iz.1 hs
 obtain⟨_,_,l1,l2⟩:=hB _ _ _ h3
 have hm:((n+1:Nat):Int) *M=n*M+M:=by rw[Int.natCast_add,Int.add_mul];omega
 unfold AgreeS.relax
 split
 ·rename_i hb
  intro v c hv
  simp only[upd]at hv
  split at hv
  ·unfold better at hb
   unfold lower at hv
   cases hf:x.known s.from_ with
   |none=>simp[hf]at hb
   | some d=>
     have:=h _ _ hf
     rw[hf]at hv
     simp at hv
     omega
  ·have:=h v c hv
   have:0<=M:=by simp[M]
   omega
 ·exact h.mono Al
theorem Small.fold {N:Nat}{B:Net}(hB:ZD N B):∀(l:List Step) (n:Nat) (x:St),(∀s∈l,s∈steps B)->Small n x.known->Small (n+l.length) (l.foldl AgreeS.relax x).known
 |[],_,_,_,h=>h
 | s::l,n,x,hl,h=>by
   have:=Small.fold hB l (n+1) _ (fun t ht=>hl t (List.mem_cons_of_mem _ ht)) (h.relax hB (hl s (by simp)))
   exact this.mono (by simp;omega)
theorem Small.pass {N n:Nat}{B:Net}(hB:ZD N B) {x:St}(h:Small n x.known):Small (n+169) (AgreeS.pass B x).known:=by
 refine(Small.fold hB (steps B) n {x with last:= -1} (fun _ h=>h) h).mono ?_
 have:=UA B
 omega
theorem Ob {N:Nat}{B:Net}(hB:ZD N B):∀(k n:Nat) (x:St),Small n x.known->Small (n+k*169) (passes B k x).known
 |0,n,_,h=>by simpa[passes]using h
 |k+1,n,x,h=>(Ob hB k (n+169) _ (h.pass hB)).mono Al


end AgreeS

/- The greatest of the first numbers, and the least. -/
namespace AgreeS
def mxTo (lo:Nat->Int):Nat->Int
 |0=>lo 0
 |s+1=>max (mxTo lo s) (lo s)
def mnTo (hi:Nat->Int):Nat->Int
 |0=>hi 0
 |s+1=>min (mnTo hi s) (hi s)
theorem mx_is (lo:Nat->Int):∀{k},0<k->(∃i,i<k/\mxTo lo k=lo i)/\∀i,i<k->lo i<=mxTo lo k
 | k +1,_=>by
   rcases Nat.eq_zero_or_pos k with h|h
   ·subst h
    have e:mxTo lo 1=lo 0:=by unfold mxTo mxTo;omega
    exact⟨⟨0,by omega,e⟩,fun i hi=>by
     obtain rfl:i=0:=by omega
     show lo 0<=mxTo lo 1
     omega⟩
   ·obtain⟨⟨i,hi,e⟩,h2⟩:=mx_is lo h
    have e1:mxTo lo (k+1)=max (mxTo lo k) (lo k):=rfl
    refine⟨?_,fun j hj=>?_⟩
    ·rcases Int.le_total (mxTo lo k) (lo k)with h3|h3
     ·exact⟨k,by omega,by omega⟩
     ·exact⟨i,by omega,by omega⟩
    ·by_cases ej:j=k
     ·subst ej;omega
     ·have:=h2 j Al;omega
theorem mn_is (hi:Nat->Int):∀{k},0<k->(∃i,i<k/\mnTo hi k=hi i)/\∀i,i<k->mnTo hi k<=hi i
 | k +1,_=>by
   rcases Nat.eq_zero_or_pos k with h|h
   ·subst h
    have e:mnTo hi 1=hi 0:=by unfold mnTo mnTo;omega
    exact⟨⟨0,by omega,e⟩,fun i hi1=>by
     obtain rfl:i=0:=by omega
     show mnTo hi 1<=hi 0
     omega⟩
   ·obtain⟨⟨i,hi',e⟩,h2⟩:=mn_is hi h
    have e1:mnTo hi (k+1)=min (mnTo hi k) (hi k):=rfl
    refine⟨?_,fun j hj=>?_⟩
    ·rcases Int.le_total (mnTo hi k) (hi k)with h3|h3
     ·exact⟨i,by omega,by omega⟩
     ·exact⟨k,by omega,by omega⟩
    ·by_cases ej:j=k
     ·subst ej;omega
     ·have:=h2 j Al;omega
end AgreeS

/- What is found of one tank and one hull that do not agree: its ring. -/
set_option maxRecDepth 100000
set_option linter.unusedVariables false
namespace AgreeS
def QO (bl bh mx mn:Int):Net:=fun f t=>if f=0/\t=1 then some bh else if f=1/\t=0 then some (-bl)else if f=2/\t=1 then some mn else if f=1/\t=2 then some (-mx)else none
def mJ (bl bh:Int) (lo hi:Nat->Int) (s:Nat):Net:=if s=0 then(fun f t=>if f=0/\t=1 then some bh else if f=1/\t=0 then some (-bl)else none)else QO bl bh (mxTo lo s) (mnTo hi s)
theorem eL {T:Table}{bl bh:Int}{lo hi:Nat->Int}(h1:T.tanks=1) (h2:T.Ue=bl) (h3:T.TT=bh):∀s,((List.range s).map fun i=>(⟨0,0,lo i,hi i⟩:Test)).foldl (Gj T) ((List.range T.tanks).foldl (Fq T) empty)=mJ bl bh lo hi s
 | 0=>by
   rw[h1]
   show Fq T empty 0=_
   unfold Fq mJ
   rw[h2,h3,if_pos rfl]
   funext f t
   unfold put empty
   by_cases a:f=0/\t=1
   ·obtain⟨rfl,rfl⟩:=a;simp
   ·by_cases b:f=1/\t=0
    ·obtain⟨rfl,rfl⟩:=b;simp
    ·simp[a,b]
 | s + 1=>by
   rw[List.range_succ,List.map_append,List.foldl_append,eL h1 h2 h3 s]
   show Gj T (mJ bl bh lo hi s) ⟨0,0,lo s,hi s⟩=_
   unfold Gj mJ
   rw[h1,if_neg (show¬s+1=0 by omega)]
   have e1:mxTo lo (s+1)=max (mxTo lo s) (lo s):=rfl
   have e2:mnTo hi (s+1)=min (mnTo hi s) (hi s):=rfl
   rw[e1,e2]
   funext f t
   rcases Nat.eq_zero_or_pos s with rfl|hs
   ·rw [if_pos rfl]
    unfold put QO mxTo mnTo
    by_cases a:f=0/\t=1
    ·obtain⟨rfl,rfl⟩:=a;simp
    ·by_cases b:f=1/\t=0
     ·obtain⟨rfl,rfl⟩:=b;simp
     ·by_cases c:f=2/\t=1
      ·obtain⟨rfl,rfl⟩:=c;simp
      ·by_cases d:f=1/\t=2
       ·obtain⟨rfl,rfl⟩:=d;simp
       ·simp[a,b,c,d]
   ·rw [if_neg Al]
    unfold put QO
    by_cases a:f=0/\t=1
    ·obtain⟨rfl,rfl⟩:=a;simp
    ·by_cases b:f=1/\t=0
     ·obtain⟨rfl,rfl⟩:=b;simp
     ·by_cases c:f=2/\t=1
      ·obtain⟨rfl,rfl⟩:=c;simp;omega
      ·by_cases d:f=1/\t=2
       ·obtain⟨rfl,rfl⟩:=d;simp;omega
       ·simp[a,b,c,d]
theorem RS (bl bh mx mn:Int):steps (QO bl bh mx mn)=[⟨0,1,bh⟩,⟨1,0, -bl⟩,⟨1,2, -mx⟩,⟨2,1,mn⟩]:=by kernel_rfl
def K3 (a b c:Option Int):Known:=fun i=>if i=0 then a else if i=1 then b else if i=2 then c else none
theorem Ajn {a b c v:Option Int}:upd (K3 a b c) 0 v=K3 v b c:=by
 funext i;unfold upd K3;by_cases h:i=0<;>simp[h]
theorem rC {a b c v:Option Int}:upd (K3 a b c) 1 v=K3 a v c:=by
 funext i;unfold upd K3;by_cases h:i=1
 ·subst h;simp
 ·simp[h]
theorem Gx {a b c v:Option Int}:upd (K3 a b c) 2 v=K3 a b v:=by
 funext i;unfold upd K3;by_cases h:i=2
 ·subst h;simp
 ·simp[h]
theorem k0 {a b c:Option Int}:K3 a b c 0=a:=rfl
theorem k1 {a b c:Option Int}:K3 a b c 1=b:=rfl
theorem k2 {a b c:Option Int}:K3 a b c 2=c:=rfl
theorem HC {k:Known}{f t:Nat}{m a b:Int}(h1:k f=some a) (h2:k t=some b) (h:a+m<b):better k ⟨f,t,m⟩=true:=by
 unfold better;dsimp only;rw[h1,h2];simpa using h
theorem Tz {k:Known}{f t:Nat}{m a:Int}(h1:k f=some a) (h2:k t=none):better k ⟨f,t,m⟩=true:=by
 unfold better;dsimp only;rw[h1,h2]
theorem Qa {k:Known}{f t:Nat}{m a b:Int}(h1:k f=some a) (h2:k t=some b) (h:b<=a+m):better k ⟨f,t,m⟩=false:=by
 unfold better;dsimp only;rw[h1,h2];simpa using h
theorem Gt {k:Known}{l:List (Nat × Nat)}{z:Int}{f t:Nat}{m a:Int}(h1:k f=some a) (h:better k ⟨f,t,m⟩=true):relax ⟨k,l,z⟩ ⟨f,t,m⟩=⟨upd k t (some (a+m)),iP l t f,t⟩:=by
 unfold relax lower;dsimp only;rw[h,h1];rfl
theorem Sf {k:Known}{l:List (Nat × Nat)}{z:Int}{s:Step}(h:better k s=false):relax ⟨k,l,z⟩ s=⟨k,l,z⟩:=by
 unfold relax;dsimp only;rw[h];rfl
theorem eF {bl bh mx mn:Int}(hb:bl<=bh) (hc:mn<mx) {a b c:Int}{l:List (Nat × Nat)}{z:Int}(hl:l=[(1,2),(2,1)]\/l=[(1,2),(2,1),(0,1)]) (h1:b<=a+bh) (h2:c=b - mn):
 ∃a' l',pass (QO bl bh mx mn) ⟨K3 (some a) (some b) (some c),l,z⟩=⟨K3 (some a') (some (b - mx+mn)) (some (b - mx)),l',1⟩/\(l'=[(1,2),(2,1)]\/l'=[(1,2),(2,1),(0,1)])/\a'<=a/\a'<=b - bl/\(a'=a\/a'=b - bl):=by
 unfold pass
 rw[RS]
 simp only[List.foldl_cons,List.foldl_nil]
 rw[Sf (Qa k0 k1 Al)]
 by_cases h:b+ -bl<a
 ·rw[Gt k1 (HC k1 k0 h),Ajn,Gt k1 (HC k1 k2 Al),Gx,Gt k2 (HC k2 k1 Al),rC]
  refine⟨b+ -bl,_,rfl,?_,by omega,by omega,by omega⟩
  rcases hl with rfl|rfl<;>decide
 ·rw[Sf (Qa k1 k0 Al),Gt k1 (HC k1 k2 Al),Gx,Gt k2 (HC k2 k1 Al),rC]
  refine⟨a,_,rfl,?_,by omega,by omega,by omega⟩
  rcases hl with rfl|rfl<;>decide
theorem jD {bl bh mx mn:Int}(hb:bl<=bh) (hc:mn<mx):((found (QO bl bh mx mn) 3 0).before=[(1,2),(2,1)]\/(found (QO bl bh mx mn) 3 0).before=[(1,2),(2,1),(0,1)])/\(found (QO bl bh mx mn) 3 0).last=1:=by
 have e1:pass (QO bl bh mx mn) (start 0)=⟨K3 (some 0) (some (bh - mx+mn)) (some (bh - mx)),[(1,2),(2,1)],1⟩:=by
  have hs:({start 0 with last:= -1}:St)=⟨K3 (some 0) none none,[], -1⟩:=by
   have:(fun i=>if i=0 then some (0:Int)else none:Known)=K3 (some 0) none none:=by
    funext i;unfold K3;by_cases h:i=0<;>simp[h]
   show(⟨fun i=>if i=0 then some 0 else none,[], -1⟩:St)=_
   rw[this]
  unfold pass
  rw[RS,hs]
  simp only[List.foldl_cons,List.foldl_nil]
  rw[Gt k0 (Tz k0 k1),rC,Sf (Qa k1 k0 Al),Gt k1 (Tz k1 k2),Gx,Gt k2 (HC k2 k1 Al),rC]
  have a1:(0:Int)+bh+ -mx+mn=bh - mx+mn:=by omega
  have a2:(0:Int)+bh+ -mx=bh - mx:=by omega
  rw[a1,a2]
  rfl
 obtain⟨a,l,e2,hl,x1,x2,x3⟩:=eF hb hc (a:=0) (b:=bh - mx+mn) (c:=bh - mx) (l:=[(1,2),(2,1)]) (z:=1) (.inl rfl) Al Al
 obtain⟨a',l',e3,hl', -⟩:=eF hb hc (a:=a) (b:=bh - mx+mn - mx+mn) (c:=bh - mx+mn - mx) (z:=1) hl Al Al
 unfold found passes passes passes passes
 rw[e1,e2,e3]
 exact⟨hl',rfl⟩
end AgreeS

/- The plain law of one tank and one hull: a table, and runs of two numbers. -/
set_option linter.unusedVariables false
namespace AE.Tryz.Spn
open AE AE.Sp
open AgreeS (mxTo mnTo mx_is mn_is)

structure Lg (T:AgreeS.Table) (L:Runs) (bl bh:Int) (k:Nat) (lo hi:Nat->Int):Prop where
 ok:T.Ok
 tn:T.tanks=1
 hu:T.hulls=1
 eb:T.Ue=bl
 ee:T.TT=bh
 te:T.tests=(List.range k).map fun i=>(⟨0,0,lo i,hi i⟩:AgreeS.Test)
 ln:L.n=k+1
 l0:L.f 0=⟨1,0,bl,bh⟩
 ls:∀i,i<k->L.f (i+1)=⟨1,1,lo i,hi i⟩
 lv:L.Val
section
variable {T:AgreeS.Table}{L:Runs}{bl bh:Int}{k:Nat}{lo hi:Nat->Int}(O:Lg T L bl bh k lo hi)
include O
theorem Lg.ts (y:AgreeS.Test):y∈T.tests↔∃i,i<k/\(⟨0,0,lo i,hi i⟩:AgreeS.Test)=y:=by
 rw[O.te];simp
theorem Lg.le:bl<=bh:=by
 have:=(O.lv 0 (by have:=O.ln;omega)).le
 rw[O.l0]at this
 exact this
theorem Lg.aZ {t:Er}:(∀i,i<L.n->(L.f i).Fit t)↔(bl*t.d<=t.a/\t.a<=bh*t.d)/\∀i,i<k->lo i*t.d<=t.a+t.b/\t.a+t.b<=hi i*t.d:=by
 rw[O.ln]
 constructor
 ·intro h
  have h0:=h 0 Al
  rw[O.l0]at h0
  unfold Run.Fit at h0
  dsimp only at h0
  refine⟨by omega,fun i hi=>?_⟩
  have h1:=h (i+1) Al
  rw[O.ls i hi]at h1
  unfold Run.Fit at h1
  dsimp only at h1
  omega
 ·rintro⟨h0,h1⟩ i hi
  rcases Nat.eq_zero_or_pos i with h|h
  ·subst h
   rw[O.l0]
   unfold Run.Fit
   dsimp only
   omega
  ·obtain⟨j,rfl⟩:∃j,i=j+1:=⟨i - 1,by omega⟩
   rw[O.ls j Al]
   have:=h1 j Al
   unfold Run.Fit
   dsimp only
   omega
theorem Lg.Uf {b x:Nat->Int}:AgreeS.Fits T b x↔(bl<=b 0/\b 0<=bh)/\∀i,i<k->lo i<=b 0+x 0/\b 0+x 0<=hi i:=by
 constructor
 ·intro f
  have h0:=f.bias 0 (by rw[O.tn];omega)
  rw[O.eb,O.ee]at h0
  exact⟨h0,fun i hi=>f.test _ ((O.ts _).2 ⟨i,hi,rfl⟩)⟩
 ·rintro⟨h0,h1⟩
  refine⟨fun i hi=>?_,fun y hy=>?_⟩
  ·rw[O.tn]at hi
   obtain rfl:i=0:=by omega
   rw[O.eb,O.ee];exact h0
  ·obtain⟨i,hi,rfl⟩:=(O.ts y).1 hy
   exact h1 i hi
theorem Lg.agrees:AgreeS.CV T↔L.Cl:=by
 constructor
 ·rintro⟨b,x,f⟩
  obtain⟨h0,h1⟩:=O.Uf.1 f
  refine jR (J9 O.lv) (t:=⟨b 0,x 0,1⟩) Int.one_pos (Km.2 (O.aZ.2 ⟨by dsimp only;omega,fun i hi=>?_⟩))
  have:=h1 i hi
  dsimp only
  omega
 ·intro c
  obtain⟨t, -,h2, -,h4⟩:=ML (T:=⟨L.n,L.f,0,none,⟨0,0,none⟩,none,⟨0,0,none⟩⟩) (J9 O.lv) c (p:=0) (q:=0) (N:=0) (D:=1) (by decide) (.inl ⟨rfl,rfl,rfl⟩)
  obtain⟨h0,h1⟩:=O.aZ.1 (Km.1 h2)
  have hb:=O.le
  rcases Nat.eq_zero_or_pos k with hk|hk
  ·exact⟨fun _=>bl,fun _=>0,O.Uf.2 ⟨by omega,fun i hi=>by omega⟩⟩
  ·obtain⟨⟨i,hi',ei⟩,a1⟩:=mx_is lo hk
   obtain⟨⟨j,hj,ej⟩,a2⟩:=mn_is hi hk
   have hle:mxTo lo k<=mnTo hi k:=by
    have:=h1 i hi'
    have:=h1 j hj
    refine Int.le_of_mul_le_mul_right (a:=t.d) ?_ h4
    rw[ei,ej]
    omega
   exact⟨fun _=>bl,fun _=>mxTo lo k - bl,O.Uf.2 ⟨by omega,fun i hi=>by
    have:=a1 i hi
    have:=a2 i hi
    omega⟩⟩
theorem Lg.no (ha:¬AgreeS.CV T):0<k/\mnTo hi k<mxTo lo k:=by
 have hb:=O.le
 rcases Nat.eq_zero_or_pos k with hk|hk
 ·exact absurd ⟨fun _=>bl,fun _=>0,O.Uf.2 ⟨by omega,fun i hi=>by omega⟩⟩ ha
 ·obtain⟨-,a1⟩:=mx_is lo hk
  obtain⟨-,a2⟩:=mn_is hi hk
  refine⟨hk,Int.lt_of_not_ge fun hle=>ha ⟨fun _=>bl,fun _=>mxTo lo k - bl,O.Uf.2 ⟨by omega,fun i hi=>?_⟩⟩⟩
  have:=a1 i hi
  have:=a2 i hi
  omega
theorem Lg.net (hk:0<k):AgreeS.BO T=AgreeS.QO bl bh (mxTo lo k) (mnTo hi k):=by
 unfold AgreeS.BO
 rw[O.te,AgreeS.eL O.tn O.eb O.ee]
 unfold AgreeS.mJ
 rw[if_neg Al]
theorem Lg.Adt (hk:0<k) (a:AgreeS.CV T):mxTo lo k<=mnTo hi k:=by
 obtain⟨b,x,f⟩:=a
 obtain⟨⟨i,hi',ei⟩, -⟩:=mx_is lo hk
 obtain⟨⟨j,hj,ej⟩, -⟩:=mn_is hi hk
 have h1:=(O.Uf.1 f).2
 have:=h1 i hi'
 have:=h1 j hj
 omega
theorem Lg.spread (hk:0<k) (a:AgreeS.CV T):AgreeS.DR T 0/\AgreeS.Ey T 0=mxTo lo k - bh/\AgreeS.CZ T 0=mnTo hi k - bl:=by
 have ht:AgreeS.DR T 0:=⟨_,(O.ts _).2 ⟨0,hk,rfl⟩,rfl⟩
 have hb:=O.le
 have hm:=O.Adt hk a
 obtain⟨⟨i,hi',ei⟩,a1⟩:=mx_is lo hk
 obtain⟨⟨j,hj,ej⟩,a2⟩:=mn_is hi hk
 have l:=O.Uf.1 (AgreeS.SH O.ok a)
 have g:=O.Uf.1 (AgreeS.PL O.ok a)
 have l1:=l.2 i hi'
 have g1:=g.2 j hj
 have s1:=AgreeS.FL O.ok (O.Uf.2 ⟨⟨hb,Int.le_refl _⟩,fun i hi=>by have:=a1 i hi;have:=a2 i hi;omega⟩:AgreeS.Fits T (fun _=>bh) fun _=>mxTo lo k - bh) ht
 have s2:=AgreeS.FL O.ok (O.Uf.2 ⟨⟨Int.le_refl _,hb⟩,fun i hi=>by have:=a1 i hi;have:=a2 i hi;omega⟩:AgreeS.Fits T (fun _=>bl) fun _=>mnTo hi k - bl) ht
 exact⟨ht,by omega,by omega⟩
theorem Lg.aQ (hk:k=0):¬AgreeS.DR T 0:=fun⟨y,hy,_⟩=>by
 obtain⟨i,hi, -⟩:=(O.ts y).1 hy
 omega
theorem Lg.lst (hk:0<k) (hm:mxTo lo k<=mnTo hi k):ZC L 0 1 (mxTo lo k - bh) 1:=by
 have hb:=O.le
 obtain⟨⟨i,hi',ei⟩,a1⟩:=mx_is lo hk
 obtain⟨-,a2⟩:=mn_is hi hk
 refine⟨by decide,⟨⟨bh,mxTo lo k - bh,1⟩,O.aZ.2 ⟨by dsimp only;omega,fun i hi=>?_⟩,by dsimp only;omega,Int.one_pos⟩,fun t ht hd=>?_⟩
 ·have:=a1 i hi;have:=a2 i hi;dsimp only;omega
 ·obtain⟨h0,h1⟩:=O.aZ.1 ht
  have:=h1 i hi'
  rw[ei,Int.sub_mul]
  omega
theorem Lg.Ams (hk:0<k) (hm:mxTo lo k<=mnTo hi k):ZC L 0 (-1) (-(mnTo hi k - bl)) 1:=by
 have hb:=O.le
 obtain⟨-,a1⟩:=mx_is lo hk
 obtain⟨⟨j,hj,ej⟩,a2⟩:=mn_is hi hk
 refine⟨by decide,⟨⟨bl,mnTo hi k - bl,1⟩,O.aZ.2 ⟨by dsimp only;omega,fun i hi=>?_⟩,by dsimp only;omega,Int.one_pos⟩,fun t ht hd=>?_⟩
 ·have:=a1 i hi;have:=a2 i hi;dsimp only;omega
 ·obtain⟨h0,h1⟩:=O.aZ.1 ht
  have:=h1 j hj
  rw[ej,Int.neg_mul,Int.sub_mul]
  omega
theorem Lg.side (i:Nat) (hi':i<k):sides L.f 0=⟨1,0,bl⟩/\sides L.f 1=⟨-1,0, -bh⟩/\sides L.f (2* (i+1))=⟨1,1,lo i⟩/\sides L.f (2* (i+1)+1)=⟨-1, -1, -hi i⟩:=by
 refine⟨?_,?_,?_,?_⟩
 ·have:=IX L.f 0;rw[O.l0]at this;exact this
 ·have:=IW L.f 0;rw[O.l0]at this;exact this
 ·rw[IX,O.ls i hi'];rfl
 ·rw[IW,O.ls i hi'];rfl
theorem Lg.bnd (hk:0<k):L.kN 0 1:=by
 obtain⟨-,h1,h2, -⟩:=O.side 0 hk
 refine .inr ⟨[1,2],(sides L.f 1).w* -cr ⟨0,1,0⟩ (sides L.f 2)+(sides L.f 2).w* -cr (sides L.f 1) ⟨0,1,0⟩, -cr (sides L.f 1) (sides L.f 2),.inr (.inl ⟨1,2,by decide,by rw[O.ln];omega,rfl⟩),?_⟩
 unfold Es
 exact .inr ⟨by rw[h1,h2];unfold cr;dsimp only;omega,by rw[h2];unfold cr;dsimp only;omega,by rw[h1];unfold cr;dsimp only;omega,rfl,rfl⟩
theorem Lg.An2 (hk:0<k):L.kN 0 (-1):=by
 obtain⟨h1, -, -,h2⟩:=O.side 0 hk
 refine .inr ⟨[0,3],(sides L.f 0).w* -cr ⟨0, -1,0⟩ (sides L.f 3)+(sides L.f 3).w* -cr (sides L.f 0) ⟨0, -1,0⟩, -cr (sides L.f 0) (sides L.f 3),.inr (.inl ⟨0,3,by decide,by rw[O.ln];omega,rfl⟩),?_⟩
 unfold Es
 exact .inr ⟨by rw[h1,h2];unfold cr;dsimp only;omega,by rw[h2];unfold cr;dsimp only;omega,by rw[h1];unfold cr;dsimp only;omega,rfl,rfl⟩
theorem Lg.eI (hk:k=0) {q:Int}(hq:q≠0):¬L.kN 0 q:=by
 have hn:=O.ln
 have h1:sides L.f 0=⟨1,0,bl⟩:=by have:=IX L.f 0;rw[O.l0]at this;exact this
 have h2:sides L.f 1=⟨-1,0, -bh⟩:=by have:=IW L.f 0;rw[O.l0]at this;exact this
 rintro(⟨-,h⟩|⟨g,N,D,hg,hc⟩)
 ·exact hq h
 rcases hg with⟨a,ha,rfl⟩|⟨a,b,hab,hb,rfl⟩|⟨h3, -⟩
 ·unfold Es at hc
  have e:=hc.1
  rcases(show a=0\/a=1 by omega)with rfl|rfl
  ·rw[h1]at e;unfold cr at e;dsimp only at e;omega
  ·rw[h2]at e;unfold cr at e;dsimp only at e;omega
 ·obtain⟨rfl,rfl⟩:a=0/\b=1:=by omega
  have e:cr (sides L.f 0) (sides L.f 1)=0:=by rw[h1,h2];unfold cr;dsimp only;omega
  unfold Es at hc
  rcases hc with⟨h3, -⟩|⟨h3, -⟩<;>omega
 ·omega
end
end AE.Tryz.Spn
