/- The plain law of agree, for tanks without a bias and one hull. -/
import Derived.Test.YtneenfjffejnoaaGreatJoin65
set_option linter.unusedVariables false
set_option linter.unusedSimpArgs false
set_option linter.unusedSectionVars false
set_option linter.unusedVariables false
namespace AgreeS
structure One (T:Table):Prop where
 ok:T.Ok
 lo:T.Ue=0
 hi:T.TT=0
 hulls:T.hulls=1
theorem One.hull {T:Table}(k:One T) {y:Test}(hy:y∈T.tests):y.hull=0:=by
 have:=(k.ok.tests y hy).hull
 rw[k.hulls]at this
 omega
theorem One.fits {T:Table}(k:One T) {b x:Nat->Int}:Fits T b x↔(∀i,i<T.tanks->b i=0)/\∀y∈T.tests,y.lo<=x 0/\x 0<=y.hi:=by
 constructor
 ·intro f
  have hb:∀i,i<T.tanks->b i=0:=fun i hi=>by
   have:=f.bias i hi
   rw[k.lo,k.hi]at this
   omega
  refine⟨hb,fun y hy=>?_⟩
  have:=f.test y hy
  rw[hb _ (k.ok.tests y hy).tank,k.hull hy]at this
  omega
 ·rintro⟨hb,hx⟩
  refine⟨fun i hi=>by rw[hb i hi,k.lo,k.hi];omega,fun y hy=>?_⟩
  rw[hb _ (k.ok.tests y hy).tank,k.hull hy]
  have:=hx y hy
  omega
theorem One.agrees {T:Table}(k:One T):CV T↔∃n:Int,∀y∈T.tests,y.lo<=n/\n<=y.hi:=
 ⟨fun⟨b,x,f⟩=>⟨x 0,(k.fits.1 f).2⟩,fun⟨n,h⟩=>⟨fun _=>0,fun _=>n,k.fits.2 ⟨fun _ _=>rfl,h⟩⟩⟩
theorem One.tested {T:Table}(k:One T) {y:Test}(hy:y∈T.tests):DR T 0:=⟨y,hy,k.hull hy⟩
theorem One.is {T:Table}(k:One T) {lo hi:Int}(hle:lo<=hi) (ht:DR T 0) (h:∀n:Int,(∀y∈T.tests,y.lo<=n/\n<=y.hi)↔lo<=n/\n<=hi):CV T/\Ey T 0=lo/\CZ T 0=hi:=by
 have ha:CV T:=k.agrees.2 ⟨lo,(h lo).2 ⟨Int.le_refl _,hle⟩⟩
 have l:=(h _).1 (k.fits.1 (SH k.ok ha)).2
 have g:=(h _).1 (k.fits.1 (PL k.ok ha)).2
 have at_:∀n,lo<=n->n<=hi->Ey T 0<=n/\n<=CZ T 0:=fun n h1 h2=>FL k.ok (k.fits.2 ⟨fun _ _=>rfl,(h n).2 ⟨h1,h2⟩⟩:Fits T (fun _=>0) fun _=>n) ht
 have a:=at_ lo (by omega) (by omega)
 have b:=at_ hi (by omega) (by omega)
 exact⟨ha,by omega,by omega⟩
theorem One.not {T:Table}(k:One T) (h:∀n:Int,¬∀y∈T.tests,y.lo<=n/\n<=y.hi):¬CV T:=fun a=>let⟨n,hn⟩:=k.agrees.1 a;h n hn
end AgreeS
