/- Walks and plain laws: KClkM, KClkN, KClkO, KClkP, KClkQ, KClkR, ClerkSpec4, KClkS, KClkT, ClerkSpec5, KClkU, KClkV, KClkW, KClkAs, KClkRd, KClkEq, KClkLa, KClkKeys. -/
import Derived.Test.YtbgiemgoafjohaaGreatDoorJoin91
import Derived.Test.YtbgiemgoafjohaaGreatDoorJoin90
import Derived.Test.YtbgiemgoafjohaaGreatDoorAEthree
import Derived.Shelf.SlIterI.Nil
import Derived.Shelf.SortM.Plain
import Derived.Shelf.SortM.SortNone
import Derived.Ground.GgzProg
import Derived.Ground.SlgmProg
set_option linter.unusedVariables false
set_option linter.unusedSimpArgs false
set_option linter.unusedSectionVars false

/- Clerk, walked: Receipt by the definitions. -/
namespace AE.Tryz
open Go AE Go.Proofs AE.Clerk
set_option maxRecDepth 100000
set_option linter.unusedVariables false

end AE.Tryz

/- Clerk, walked: Receipt by the definitions, whole. -/
namespace AE.Tryz
open Go AE Go.Proofs AE.Clerk
set_option maxRecDepth 100000
set_option linter.unusedVariables false

end AE.Tryz

/- Clerk, walked: deep, climb of the definitions. -/
namespace AE.Tryz
open Go AE Go.Proofs AE.Clerk
set_option maxRecDepth 100000
set_option linter.unusedVariables false

theorem XP.take {m:Nat}{h:H}{l:List Int}{b:Option Addr}{a:Addr}{c c':Nat}(k:XP m h l b a c) (n:Nat) (hn:n<=l.length) (h0:0<l.length):XP m h (l.take n) (some a) a c':=
 ⟨fun _=>rfl,fun i hi=>by
  rw[List.length_take]at hi
  have:=k.i i Af
  rw[this]
  simp only[List.getD_eq_getElem?_getD,List.getElem?_take]
  rw[if_pos Af],fun h=>k.r h0⟩
end AE.Tryz

/- Clerk, walked: CheckReceipt by the definitions. -/
namespace AE.Tryz
open Go AE Go.Proofs AE.Clerk
set_option maxRecDepth 100000
set_option linter.unusedVariables false

def nI (ys:List Int):Prop:=∀y∈ys,CP y 0 (Clerk.P - 1)
instance (ys:List Int):Decidable (nI ys):=by unfold nI;infer_instance
end AE.Tryz

/- Clerk, walked: Collect of the parts beside a line. -/
namespace AE.Tryz
open Go AE Go.Proofs AE.Clerk
set_option maxRecDepth 100000
set_option linter.unusedVariables false

structure jC (nb:Nat) (h:H) (L0:DN) (r1:Nat) (l:List P3) (h1:H):Prop where
 x:∃r,GX r h1 158 3 l.length (l.flatMap ky)/\h1.get nb=some (.cells [.slice (FF r l.length) l.length 0] 161)/\(0<l.length->h.next+3<=r/\r<h1.next)
 e1:h1.get r1=h.get r1
 lp:h1.get h.next=some (.loop L0)
 nx:h.next<h1.next
 lt:nb<h1.next/\r1<h1.next
theorem jC.quiet {nb:Nat}{h:H}{L0:DN}{r1:Nat}{l:List P3}{h1 h4:H}(k:jC nb h L0 r1 l h1) (q:Quiet h1.next h1 h4):jC nb h L0 r1 l h4:=by
 obtain⟨⟨r,g,x7,b⟩,e1,lp,nx,lt⟩:=k
 have hn:=q.next
 exact⟨⟨r,g.frame fun h0=>q.same _ (by have:=b h0;omega),(q.same _ Af).trans x7,fun h0=>by have:=b h0;omega⟩,(q.same _ Af).trans e1,(q.same _ nx).trans lp,by omega,by omega⟩
end AE.Tryz

/- Clerk, walked: CheckReceipt. -/
namespace AE.Tryz
open Go AE Go.Proofs AE.Clerk
set_option maxRecDepth 100000
set_option linter.unusedVariables false

theorem EP {G:Prop}(g:G:=by(exact Yu)):G:=g
end AE.Tryz

/- The clerk's file, in plain words. -/
namespace AE.Clerk

end AE.Clerk

/- Clerk, walked: Write. -/
namespace AE.Tryz
open Go AE Go.Proofs AE.Clerk
set_option maxRecDepth 100000
set_option linter.unusedVariables false

theorem lH {r n sz:Nat}{h:H}{e:TypeId}{cs:List Value}(g:GX r h e sz n cs):GG r h e sz n cs (FF r n):=by
 rcases Nat.eq_zero_or_pos n with h0|h0
 ·subst h0
  have:cs=[]:=List.length_eq_zero_iff.1 (by rw[g.len];simp)
  exact .inl ⟨rfl,rfl,this⟩
 ·exact .inr ⟨h0,g.lK h0⟩
end AE.Tryz

/- Clerk, walked: Write by the definitions. -/
namespace AE.Tryz
open Go AE Go.Proofs AE.Clerk
set_option maxRecDepth 100000
set_option linter.unusedVariables false

end AE.Tryz

/- Numbers that are read, in plain words. -/
namespace AE.Clerk

def eL (w:List Nat) (z:Nat):Prop:=z / 10<=1099511627776/\w=dec z
theorem eL.le {w:List Nat}{z:Nat}(h:eL w z):z<=10995116277769:=by have:=h.1;omega
end AE.Clerk

/- Clerk, walked: the number of a word. -/
namespace AE.Tryz
open Go AE Go.Proofs AE.Clerk
set_option maxRecDepth 100000
set_option linter.unusedVariables false

end AE.Tryz

/- Clerk, walked: the value of a word by the definitions. -/
namespace AE.Tryz
open Go AE Go.Proofs AE.Clerk
set_option maxRecDepth 100000
set_option linter.unusedVariables false

end AE.Tryz

/- Clerk, walked: the word and the numbers of a row. -/
namespace AE.Tryz
open Go AE Go.Proofs AE.Clerk
set_option maxRecDepth 100000
set_option linter.unusedVariables false

def eK (l w:List Nat) (zs:List Nat):Prop:=CJ 32 l (w::zs.map dec)/\∀z∈zs,z / 10<=1099511627776
theorem eK.split {l w:List Nat}{zs:List Nat}{ps:List (List Nat)}(h:eK l w zs) (k:CJ 32 l ps):ps=w::zs.map dec:=k.uniq h.1
end AE.Tryz

/- Clerk, walked: a line made of a kind and numbers. -/
namespace AE
open Go
section
variable {P:Program}{lo Av:Nat}{ts:Ts}{h:H}{k:Value->H->Prop}
end
end AE
namespace AE.Tryz
open Go AE Go.Proofs AE.Clerk
set_option maxRecDepth 100000
set_option linter.unusedVariables false

end AE.Tryz

/- Clerk: rows and files, in plain words. -/
namespace AE.Tryz
open Go AE Go.Proofs AE.Clerk
set_option maxRecDepth 100000
set_option linter.unusedVariables false

theorem Vx {x:Ln}(hv:x.Valid 1099511627776):0<=x.k/\x.k<=7:=by
 unfold Ln.Valid at hv;omega
end AE.Tryz

/- Clerk: comparisons of lines. -/
namespace AE.Tryz
open Go AE Go.Proofs AE.Clerk
set_option maxRecDepth 100000
set_option linter.unusedVariables false

theorem PartOf.one {P:Program}{e:TypeId}{cs:List Value}{off:Nat}{v:Value}(h1:BU P e=some false) (h2:cs[off]? =some v):PartOf P e false cs off [v]:=⟨h1,by rw[if_neg (by simp)];exact⟨v,h2,rfl⟩⟩
end AE.Tryz

/- Clerk, walked: the laws' own comparisons (same, errnos, longs, near), Line, Book. -/
namespace AE.Tryz
open Go AE Go.Proofs AE.Clerk
set_option maxRecDepth 100000
set_option linter.unusedVariables false

def eG (n:Nat) (f g:Nat->Ln):Prop:=∀i,i<n->f i=g i
instance (n:Nat) (f g:Nat->Ln):Decidable (eG n f g):=by unfold eG;infer_instance
structure Ns where
 n:Nat
 f:Nat->Int
 b:Option Addr
 a:Addr
 c:Nat
structure Ns.Ok (B:Ns) (m:Nat) (h:H):Prop where
 e:0<B.n->B.b=some B.a
 i:Ints h B.a B.n B.f
 r:0<B.n->B.a.block<m
 l:B.n<=9223372036854775807
theorem Ns.Ok.same {T:Ns}{m m':Nat}{h h':H}(k:T.Ok m h) (s:Same m h h') (hm:m<=m'):T.Ok m' h':=
 ⟨k.e,k.i.same s k.r,fun h=>by have:=k.r h;omega,k.l⟩
def eF (n:Nat) (f g:Nat->Int):Prop:=∀i,i<n->f i=g i
instance (n:Nat) (f g:Nat->Int):Decidable (eF n f g):=by unfold eF;infer_instance
theorem p9 {h:H}{x:Ln}:AW Tryz.prog 12 h.next h [.int .i64 x.k,.int .i64 x.m,.int .i64 x.a,.int .i64 x.b] (fun v _=>v= .agg ⟨x.cells⟩):=by
 refine l7.call rfl (Nat.le_refl _) ?_
 unfold a12
 (refine Ai ?_)
 (refine AA ?_)
 rfl
theorem Bh {G:Prop}(g:G:=by(exact p9 (x:=⟨_,_,_,_⟩))):G:=g
end AE.Tryz

/- Clerk: slices.Sorted(maps.Keys(m)) at int64 keys, in the world. -/
namespace Go.Proofs
open Go.RowKit Go.Maps Go.Sort Go.Shelf
theorem Tryz.sortsA (m:Nat):AnyZI.SortsIn Tryz.prog Tryz.sortedA_ren Fence.wide m:=
 ⟨fun blk off cap ss W hH hblk hsz=>callsIn_wide.2 (AnyM.slices_Sort_int Tryz.sortA blk off cap ss W hH hblk hsz),
  fun p cap W=>callsIn_wide.2 (AnyM.slices_Sort_int_none Tryz.sortA p cap W)⟩
def OI:Value->Option (DataW Nat × List MemPlace):=fun _=>some (.nil,[])
theorem Tryz.sortedD (w:World) (bm b nn:Nat) (D0:DataW Nat) (qI:bm<w.heap.size) (hcell:w.cell? ⟨bm,0,none⟩=some (.map (some b))) (hown:w.ownsMap Tryz.prog 2 OI b nn D0) (hmax:Maps.size D0<=maxLen) (hbytes:Maps.size D0*8<=140737488355328):
 Calls Tryz.prog 106 #[.func (.func 189) #[] #[.pointer (some ⟨bm,0,none⟩)]] w fun e w'=>∃(v:Value) (ss:List Int),e= .returned v/\ss.Perm (intKeys D0)/\
  w'.ownsRow w.heap.size 2 1 v ss.length ((ss.mergeSort (fun x y=>decide (x<=y))).map encZ)/\(v= .slice none 0 0↔ss=[])/\Below w.heap.size w w':=by
 refine(callsIn_wide (n:=5)).1 ?_
 have hseq:SeqGives Fence.wide 2 Tryz.prog 189 #[.pointer (some ⟨bm,0,none⟩)] encZ (fun ss=>ss.Perm (intKeys D0)) (Maps.size D0) w:=
  AnyZI.keys_gives (ρ:=Tryz.keysA_ren) {Tryz.keysA with} Fence.wide _ trivial rfl Af bm b nn D0 w qI hcell hown
 have cS:=AnyZI.sorted_in Tryz.sortedA Fence.wide 5 trivial trivial trivial trivial rfl Af (Tryz.sortsA _) (enters_of Tryz.func188 (by kernel_rfl) rfl) 189 #[.pointer (some ⟨bm,0,none⟩)] trivial (enters_of Tryz.func189 (by kernel_rfl) rfl) _ _ hmax hbytes w hseq
 exact cS
end Go.Proofs
