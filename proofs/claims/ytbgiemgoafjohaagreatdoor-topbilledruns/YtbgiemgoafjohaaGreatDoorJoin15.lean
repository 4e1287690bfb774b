/- Walks and plain laws: T12Card, T12FitR. -/
import Derived.Test.YtbgiemgoafjohaaGreatDoorT12TieC
import Derived.Test.YtbgiemgoafjohaaGreatDoorCards
import Derived.Test.YtbgiemgoafjohaaGreatDoorAEthree
import Derived.Lib.LaidTab
import Derived.ProofKit
import Derived.OpenShut
import Derived.LaidMore
import Derived.Lay
import Derived.SevenTiedAt
import Derived.Stop.Joined
import Derived.Test.YtbgiemgoafjohaaGreatDoorRows
import Derived.Test.YtbgiemgoafjohaaGreatDoorJoin45
import Derived.KernelRfl
set_option linter.unusedVariables false
set_option linter.unusedSimpArgs false
set_option linter.unusedSectionVars false

/- Top12: from the condition on listed variables to the table that the walks read; the witness; the card. -/
namespace AE.Tryz
open Go Go.Proofs Go.Proofs.YtbgiemgoafjohaaGreatDoor AE
set_option maxRecDepth 100000

theorem g0':Tryz.prog.globalNamed "internal/strconv.uint64pow10" =some 0:=by kernel_rfl
theorem bh {W:World}(h:laidMetH Tryz.prog Mb W):I7 W.heap.size W:=by
 rw[MakeChecks.laidMetH_plain _ _ _ (by kernel_rfl)]at h
 obtain⟨ps,hl, -, -⟩:=h
 obtain⟨ps2,g,t,cs,fuel,p,q,hg,ht,hv,hd, -, -⟩:=id (Exists.intro ps hl)
 obtain rfl:=Option.some.inj (g0'.symm.trans hg)
 obtain rfl:=Option.some.inj ((show(Tryz.prog.globals[0]?).map (·.type)=some 642 by kernel_rfl).symm.trans ht)
 have hc:cs.toList=Np.map (Value.int .u64):=Lib.cells_of_tab (zs:=Np) (n:=20) Tryz.underlying642 Tryz.underlying515 (by kernel_rfl) (by kernel_rfl) hd
 have hcs:cs=⟨Np.map (Value.int .u64)⟩:=by rw[<-hc]
 subst hcs
 simp only[World.var?,hg,Option.bind_some]at hv
 intro x hx
 simp only[PW,List.mem_singleton]at hx
 subst hx
 split at hv
 ·rename_i a b c e
  simp only[Option.some.injEq]at hv
  subst hv
  exact⟨(Array.getElem?_eq_some_iff.1 e).1,b,c,e⟩
 ·simp at hv
theorem Y9 (os:Os) (args:Array Value):laidMetH Tryz.prog Mb ((World.laidAll Tryz.prog os Mb).forCall (fun _ _=>0) ⟨#[],args,[]⟩).memory:=by
 rw[MakeChecks.laidMetH_plain _ _ _ (by kernel_rfl)]
 exact laidMet_laidAll _ (by kernel_rfl) (by kernel_rfl)
end AE.Tryz

/- What comes in, for TopBilledRuns: the shapes of the arguments' types, and the values that they hold. -/
namespace AE.T12InR
open Go Go.Proofs Go.Proofs.YtbgiemgoafjohaaGreatDoor AE AE.Tryz AE.Fair
set_option maxRecDepth 100000
set_option linter.unusedVariables false

theorem Xi:FP Tryz.prog (.int .i64) 2:=.int Tryz.underlying2
theorem qj:FP Tryz.prog (.int .u8) 5:=.int Tryz.underlying5
theorem dV:FP Tryz.prog (.int .u16) 27:=.int Tryz.underlying27
theorem cr {c n:Nat}(h1:n<=c) (h2:c<=maxLen\/(far<=c/\n=0)):n<=9223372036854775807:=by
 rcases h2 with h2|⟨-,h2⟩
 ·unfold maxLen at h2;omega
 ·omega
theorem jP {h:H}{m:Nat}{v:Value}(k:Fits h m (.int .u8) [v]):∃n:Int,v= .int .u8 n/\0<=n/\n<256:=by
 obtain⟨n,e,h1,h2⟩:=k
 simp only[IntKind.min,IntKind.max,IntKind.signed,IntKind.bits]at h1 h2
 simp at h1 h2 e
 exact⟨n,e,h1,by omega⟩
theorem Yd {h:H}{m:Nat}{v:Value}(k:Fits h m (.int .u16) [v]):∃n:Int,v= .int .u16 n/\0<=n/\n<65536:=by
 obtain⟨n,e,h1,h2⟩:=k
 simp only[IntKind.min,IntKind.max,IntKind.signed,IntKind.bits]at h1 h2
 simp at h1 h2 e
 exact⟨n,e,h1,by omega⟩
def Ql:Sh:=.cons (.int .i64) (.cons (.int .i64) .nil)
theorem VC:FP Tryz.prog Ql 23:=.struct Tryz.underlying23 (by kernel_rfl) (.cons (by kernel_rfl) (by kernel_rfl) Xi (.cons (by kernel_rfl) (by kernel_rfl) Xi .nil))
def Va:Sh:=.cons (.int .i64) (.cons Ql (.cons (.int .i64) (.cons (.int .i64) (.cons (.int .i64) .nil))))
theorem kS:FP Tryz.prog Va 40:=.struct Tryz.underlying40 (by kernel_rfl) (.cons (by kernel_rfl) (by kernel_rfl) Xi (.cons (by kernel_rfl) (by kernel_rfl) VC (.cons (by kernel_rfl) (by kernel_rfl) Xi (.cons (by kernel_rfl) (by kernel_rfl) Xi (.cons (by kernel_rfl) (by kernel_rfl) Xi .nil)))))
theorem gy:FP Tryz.prog (.slice Va) 24:=.slice Tryz.underlying24 (by kernel_rfl) (by decide) kS
def VP:Sh:=.cons Ql (.cons (.slice Va) .nil)
theorem kT:FP Tryz.prog VP 26:=.struct Tryz.underlying26 (by kernel_rfl) (.cons (by kernel_rfl) (by kernel_rfl) VC (.cons (by kernel_rfl) (by kernel_rfl) gy .nil))
theorem fu {h:H}{m:Nat}{cs:List Value}(k:Fits h m Va cs):∃t:RunT,cs=t.cells:=by
 obtain⟨zs,rfl,l, -⟩:=Jo (k:=.i64) (by decide) k
 match zs,l with
 |[a,b,c,d,e,f],_=>exact⟨⟨a,b,c,d,e,f⟩,rfl⟩
theorem ja {h:H}{m:Nat}{cs:List Value}(k:Fits h m VP cs):∃D:Day,cs=D.cells/\D.Ok m h:=by
 obtain⟨c1,c2,rfl,k0,c5,c6,rfl,k1,k2⟩:=k
 have k2:c6=[]:=k2
 subst k2
 obtain⟨zs,rfl,l, -⟩:=Jo (k:=.i64) (by decide) k0
 obtain⟨b,a,n,c,rfl,h1,h2,h3,h4,h5,h6⟩:=k1
 have hz:∀i,i<n->∃x:RunT,h.Az (BB a (i*6)) 6=some x.cells:=fun i hi=>by
  obtain⟨l,e1,kk⟩:=h6 i hi
  obtain⟨x,rfl⟩:=fu kk
  exact⟨x,e1⟩
 obtain⟨f,hf⟩:=YK (⟨0,0,0,0,0,0⟩:RunT) hz
 match zs,l with
 |[lo,hi],_=>exact⟨⟨lo,hi,n,f,b,a,c⟩,rfl,h3,hf,fun h=>(h4 h).1,cr h1 h2⟩
end AE.T12InR
