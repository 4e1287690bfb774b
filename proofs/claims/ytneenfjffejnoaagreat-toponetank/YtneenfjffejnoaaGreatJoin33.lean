/- Walks and plain laws: NTopSc, TopSp, NTopF1, T9Sm, T9Tk. -/
import Derived.Test.YtneenfjffejnoaaGreatAEBy2
import Derived.Test.YtneenfjffejnoaaGreatT9Code
import Derived.Test.YtneenfjffejnoaaGreatAEthree
import Derived.Test.YtneenfjffejnoaaGreatJoin26
import Derived.Test.YtneenfjffejnoaaGreatJoin34
set_option linter.unusedVariables false
set_option linter.unusedSimpArgs false
set_option linter.unusedSectionVars false

/- Walks of fair: what it measures. -/
namespace AE.Tryz
open Go AE Go.Proofs AE.Fair
set_option maxRecDepth 100000
set_option linter.unusedVariables false

theorem Ec {g:FuncId}{first CL args xs:List Value}{lo:Nat}{h:H}{R:Value->H->Prop}(hc:AW Tryz.prog g lo h xs R) (e:first++args++CL=xs):∃v h',R v h'/\CX Tryz.prog (.func (.func g) ⟨first⟩ ⟨CL⟩) lo h args v h':=by
 obtain⟨v,h',r,a⟩:=hc
 subst e
 exact⟨v,h',r,a.Vv⟩
theorem CJ {fv:Value}{args:List Value}{lo lo':Nat}{h:H}{R:Value->H->Prop}(hc:∃v h',R v h'/\CX Tryz.prog fv lo h args v h') (hl:lo'<=lo):∃v h',R v h'/\CX Tryz.prog fv lo' h args v h':=
 let⟨v,h',r,a⟩:=hc;⟨v,h',r,a.mono hl⟩

structure G9 where
 n:Nat
 f:Nat->Int
 b:Option Addr
 a:Addr
 c:Nat
structure G9.Ok (T:G9) (m:Nat) (h:H):Prop where
 e:0<T.n->T.b=some T.a
 i:Ints h T.a T.n T.f
 r:0<T.n->T.a.block<m
 l:T.n<=9223372036854775807
theorem G9.Ok.same {T:G9}{m m':Nat}{h h':H}(k:T.Ok m h) (s:Same m h h') (hm:m<=m'):T.Ok m' h':=
 ⟨k.e,k.i.same s k.r,fun h=>by have:=k.r h;omega,k.l⟩

end AE.Tryz

/- The fairest line within spots, in plain words: what it costs to go on, and that no line costs less. -/
namespace AE.Fair
open Go AE

def Da (f:Nat->Int):Nat->Nat × Int
 |0=>(0,f 0)
 |k+1=>if f (k+1)<(Da f k).2 then(k+1,f (k+1))else Da f k
theorem IC (f:Nat->Int):∀k,(Da f k).1<=k/\f (Da f k).1=(Da f k).2
 |0=>⟨Nat.le_refl _,rfl⟩
 | k+1=>by
   have:=IC f k
   unfold Da
   split
   ·exact⟨Nat.le_refl _,rfl⟩
   ·exact⟨by omega,this.2⟩
def turns (s d:Int):Int:=if s≠0/\Lh s d≠s then 1 else 0
def pay (t s d:Int):Int:=max d (-d)+t*turns s d
def mc (t:Int) (m:MS):Int:=m.Ju+t*m.ch
theorem eT (t:Int) (m:MS) (d:Int):mc t (m.step d)=mc t m+pay t m.sign d:=by
 simp only[mc,MS.step,pay,turns]
 split
 ·rw[Int.mul_add];omega
 ·simp only[Int.mul_zero];omega
theorem Yl {f g:Nat->Int}:∀{k:Nat},(∀j,j<=k+1->f j=g j)->ms f k=ms g k
 |0,_=>rfl
 | k+1,h=>by
   have e:sd f (k+1)=sd g (k+1):=by
    simp only[sd,Nat.add_sub_cancel]
    rw[h k Al,h (k+1) Al,h (k+1+1) Al]
   simp only[ms,e,Yl (k:=k) fun j hj=>h j Al]

section
variable (t:Int) (lo:Nat->Int) (w:Nat->Nat)
def dif (i a b c:Nat):Int:=lo (i - 1)+a - 2* (lo i+b)+(lo (i+1)+c)
def dp:Nat->Nat->Nat->Nat->Int->Int
 |0,_,_,_,_=>0
 |k+1,i,a,b,s=>(Da (fun c=>pay t s (dif lo i a b c)+dp k (i+1) b c (Lh s (dif lo i a b c))) (w (i+1) - 1)).2
def J8 (k i a b:Nat) (s:Int):Nat:=(Da (fun c=>pay t s (dif lo i a b c)+dp t lo w k (i+1) b c (Lh s (dif lo i a b c))) (w (i+1) - 1)).1
end
variable {t:Int}{lo:Nat->Int}{w:Nat->Nat}
structure Good (n:Nat) (t:Int) (lo:Nat->Int) (w:Nat->Nat):Prop where
 n1:1<=n
 n2:n<=24
 t1:0<=t
 t2:t<=1000000
 lo1:∀i,i<n-> -1000000<=lo i/\lo i+(w i:Int) - 1<=1000000
 w1:∀i,i<n->1<=w i/\w i<=5
structure Path (n:Nat) (t:Int) (lo:Nat->Int) (w:Nat->Nat) (T:Int) (x:Nat->Int) (i a b:Nat) (s:Int):Prop where
 i1:1<=i
 i2:i<n
 a1:a<w (i - 1)
 b1:b<w i
 xa:x (i - 1)=lo (i - 1)+a
 xb:x i=lo i+b
 inn:∀j,j<=i->lo j<=x j/\x j<=lo j+(w j:Int) - 1
 sg:(ms x (i - 1)).sign=s
 sum:mc t (ms x (i - 1))+dp t lo w (n - 1 - i) i a b s=T
theorem inR (l:Int) (A W:Nat) (h:A<W):l<=l+(A:Int)/\l+(A:Int)<=l+(W:Int) - 1:=by omega
theorem Path.next {n:Nat}{T:Int}{x y:Nat->Int}{i a b:Nat}{s:Int}(g:Good n t lo w) (p:Path n t lo w T x i a b s) (hi:i+1<n) (hy:∀j,j<=i->y j=x j) (hc:y (i+1)=lo (i+1)+(J8 t lo w (n - 2 - i) i a b s:Nat)):
 Path n t lo w T y (i+1) b (J8 t lo w (n - 2 - i) i a b s) (Lh s (dif lo i a b (J8 t lo w (n - 2 - i) i a b s)))/\J8 t lo w (n - 2 - i) i a b s<w (i+1):=by
 have hw:=g.w1 (i+1) hi
 have i1:=p.i1
 obtain⟨e1,e2⟩:=IC (fun c=>pay t s (dif lo i a b c)+dp t lo w (n - 2 - i) (i+1) b c (Lh s (dif lo i a b c))) (w (i+1) - 1)
 have hlt:J8 t lo w (n - 2 - i) i a b s<w (i+1):=by unfold J8;omega
 have ex:ms y (i - 1)=ms x (i - 1):=Yl fun j hj=>hy j Al
 have ed:sd y i=dif lo i a b (J8 t lo w (n - 2 - i) i a b s):=by
  unfold sd dif
  rw[hy _ Al,hy _ (Nat.le_refl _),hc,p.xa,p.xb]
 have em:ms y i=(ms y (i - 1)).step (sd y i):=by
  obtain⟨j,rfl⟩:∃j,i=j+1:=⟨i - 1,by omega⟩
  rfl
 have hs:=p.sum
 rw[show n - 1 - i=(n - 2 - i)+1 by omega]at hs
 simp only[dp]at hs
 rw[<-e2]at hs
 change mc t (ms x (i - 1))+(pay t s (dif lo i a b (J8 t lo w (n - 2 - i) i a b s))+dp t lo w (n - 2 - i) (i+1) b (J8 t lo w (n - 2 - i) i a b s) (Lh s (dif lo i a b (J8 t lo w (n - 2 - i) i a b s))))=T at hs
 refine⟨⟨by omega,hi,by simpa using p.b1,hlt,?_,hc,fun j hj=>?_,?_,?_⟩,hlt⟩
 ·rw[Nat.add_sub_cancel,hy _ (Nat.le_refl _)];exact p.xb
 ·by_cases e:j=i+1
  ·subst e;rw[hc];omega
  ·rw[hy j Al];exact p.inn j Al
 ·rw[Nat.add_sub_cancel,em,ex,ed]
  show Lh (ms x (i - 1)).sign _=_
  rw[p.sg]
 ·rw[Nat.add_sub_cancel,em,eT,ex,ed,p.sg,show n - 1 - (i+1)=n - 2 - i by omega]
  omega
end AE.Fair

/- Walks of fair: spots, and a drawer. -/
namespace AE.Tryz
open Go AE Go.Proofs AE.Fair
set_option maxRecDepth 100000
set_option linter.unusedVariables false

structure Rg where
 lo:Int
 hi:Int
def Rg.cells (x:Rg):List Value:=[.int .i64 x.lo,.int .i64 x.hi]
structure Ug where
 n:Nat
 f:Nat->Rg
 b:Option Addr
 a:Addr
 c:Nat
structure Ug.Ok (T:Ug) (m:Nat) (h:H):Prop where
 e:0<T.n->T.b=some T.a
 i:JP h T.a T.n 2 (fun i=>(T.f i).cells)
 r:0<T.n->T.a.block<m
 l:T.n<=9223372036854775807
theorem Ug.Ok.same {T:Ug}{m m':Nat}{h h':H}(k:T.Ok m h) (s:Same m h h') (hm:m<=m'):T.Ok m' h':=
 ⟨k.e,k.i.same s k.r,fun h=>by have:=k.r h;omega,k.l⟩

def one (x:Int):Nat->Int:=fun _=>x
def two (x y:Int):Nat->Int:=fun i=>if i=0 then x else y
def N2 (x:Rg):Prop:=¬((-1000000<=x.lo/\x.lo<=1000000)/\ -1000000<=x.hi/\x.hi<=1000000)\/¬(0<=x.hi - x.lo/\x.hi - x.lo<=4)
instance (x:Rg):Decidable (N2 x):=by unfold N2;infer_instance
structure Cx where
 r:Ug
 t:Int
def Cx.cells (S:Cx):List Value:=[.slice S.r.b S.r.n S.r.c,.int .i64 S.t]
end AE.Tryz

/- What a hull can have is small. -/
namespace AE.Tryz
set_option linter.unusedVariables false
theorem Agr.V1 {T:AgreeS.Table}(h:T.Ok) (j:Nat): -12000000<=Agr.TX T j/\Agr.TX T j<=12000000/\ -12000000<=Agr.UD T j/\Agr.UD T j<=12000000:=by
 unfold Agr.TX Agr.UD
 by_cases he:Agr.sErr T j=0
 ·rw[if_pos he,if_pos he]
  obtain⟨ha,ht⟩:=Agr.KD.1 he
  have h1:=Agr.Mz h ha (1+T.tanks+j)
  have h2:=Agr.NI h ha (1+T.tanks+j)
  unfold AgreeS.M at h1 h2
  unfold AgreeS.Ey AgreeS.CZ
  omega
 ·rw[if_neg he,if_neg he];omega
end AE.Tryz

/- The truths that are returned fit. -/
namespace AE.Tryz.Agr
set_option linter.unusedSimpArgs false
set_option linter.unusedVariables false
open Go AE AE.Ag AgreeS Go.Proofs
set_option maxRecDepth 100000

theorem Z1 {T:Tab}(hv:T.Valid) (ha:CV T.toTable) {top:Bool}{m:Nat}{t:Er}{h:H}(k:K1 T (WZ T.toTable top) (Za top) m t h):MU T t:=by
 have hok:=hv.ok
 have hs:∀v, -12000000<=hts (WZ T.toTable top) v/\hts (WZ T.toTable top) v<=12000000:=fun v=>by
  cases top
  ·have:=Mz hok ha v
   unfold AgreeS.M at this
   exact this
  ·have:=NI hok ha v
   unfold AgreeS.M at this
   exact this
 have hf:AgreeS.Fits T.toTable (fun i=>Za top*hts (WZ T.toTable top) (1+i)) (fun j=> -(Za top*hts (WZ T.toTable top) (1+T.tanks.toNat+j))):=by
  cases top
  ·have:=SH hok ha
   refine this.congr hok (fun i _=>?_) (fun j _=>?_)
   ·show 1*_=_;rw[Int.one_mul];rfl
   ·show -(1*_)=_;rw[Int.one_mul];rfl
  ·have:=PL hok ha
   refine this.congr hok (fun i _=>?_) (fun j _=>?_)
   ·show -1*hts (AgreeS.found (turn (BO T.toTable)) T.toTable.many 0).known (1+i)= -hts (AgreeS.found (turn (BO T.toTable)) T.toTable.many 0).known (1+i);omega
   ·show -(-1*hts (AgreeS.found (turn (BO T.toTable)) T.toTable.many 0).known (1+T.tanks.toNat+j))=hts (AgreeS.found (turn (BO T.toTable)) T.toTable.many 0).known (1+T.tanks.toNat+j);omega
 have hsg:∀v, -12000000<=Za top*hts (WZ T.toTable top) v/\Za top*hts (WZ T.toTable top) v<=12000000:=fun v=>by
  have:=hs v
  cases top<;>simp only[Za]<;>first|(simp only[if_true];omega)|(simp only[Bool.false_eq_true,if_false];omega)
 have han:=k.an
 have hcn:=k.cn
 refine⟨han,hcn,fun i hi=>?_,fun j hj=>?_,fun i hi=>?_,fun i hi=>?_⟩
 ·rw[k.af i hi];have:=hsg (1+i);omega
 ·rw[k.cf j hj];have:=hsg (1+T.tanks.toNat+j);omega
 ·rw[k.af i hi]
  exact hf.bias i (by simp only[Tab.toTable];omega)
 ·have hfi:=hv.f i hi
  rw[k.af _ Al,k.cf _ Al]
  exact hf.test (T.f i).toTest (by simp only[Tab.toTable,List.mem_map,List.mem_range];exact⟨i,hi,rfl⟩)
end AE.Tryz.Agr
