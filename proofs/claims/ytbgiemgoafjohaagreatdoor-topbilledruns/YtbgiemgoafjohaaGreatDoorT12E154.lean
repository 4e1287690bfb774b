/- run.CheckTable at the table of the chapter's day: what stands before its range over the map; the calls in it. -/
import Derived.Test.YtbgiemgoafjohaaGreatDoorT12R154
set_option linter.unusedVariables false
set_option linter.unusedSimpArgs false
set_option linter.unusedSectionVars false
namespace AE.Tryz
open Go AE Go.Proofs
set_option maxRecDepth 1000000
def UC:A9:=(.cells [(.int .i64 10),(.int .i64 8),(.int .i64 16),(.int .i64 4),(.int .i64 0),(.int .i64 100),(.int .i64 5),(.int .i64 2),(.int .i64 2),(.int .i64 1),(.int .i64 0),(.int .i64 20),(.int .i64 20),(.int .i64 100),(.int .i64 100),(.int .i64 0),(.int .i64 0),(.int .i64 12)] 40)
def Yk:A9:=(.grow [(.int .i64 1048576),(.int .i64 1048576),(.int .i64 1048576),(.int .i64 10),(.int .i64 1048576),(.int .i64 1048576),(.int .i64 1048576),(.int .i64 5),(.int .i64 1048576),(.int .i64 15),(.int .i64 19),(.int .i64 1048576),(.int .i64 1048576),(.int .i64 1048576),(.int .i64 20),(.int .i64 35),(.int .i64 1048576),(.int .i64 1048576),(.int .i64 1048576),(.int .i64 1048576),(.int .i64 27),(.int .i64 42),(.int .i64 1048576),(.int .i64 1048576)] 2 1 [24,23,22,21,20,19,18,17,16,15,14,13,12,11,10,9,8,7,6,5,4,3,2,1] 0)
def bK:A9:=(.cells [(.int .i64 500),(.int .i64 500),(.slice (some ⟨12,0,none⟩) 3 3),(.int .i64 2),(.int .i64 4),(.int .i64 5),(.int .i64 0),(.int .i64 0),(.int .i64 0),(.int .i64 0),(.int .i64 0),(.int .i64 0),(.int .i64 1),(.int .i64 2),(.int .i64 0),(.int .i64 0),(.int .i64 0),(.int .i64 0),(.int .i64 0),(.int .i64 5),(.int .i64 6),(.int .i64 7),(.int .i64 0),(.int .i64 0),(.int .i64 0),(.int .i64 0),(.int .i64 0),(.int .i64 0),(.int .i64 0),(.int .i64 0),(.int .i64 0),(.int .i64 0),(.int .i64 0),(.int .i64 0),(.int .i64 0),(.int .i64 0),(.int .i64 0),(.int .i64 0),(.int .i64 0),(.int .i64 0),(.int .i64 0),(.int .i64 0),(.int .i64 0),(.int .i64 0),(.int .i64 0),(.int .i64 0),(.int .i64 0),(.int .i64 0),(.int .i64 0),(.int .i64 0),(.int .i64 0),(.int .i64 0),(.int .i64 0),(.int .i64 0),(.int .i64 0),(.int .i64 0),(.int .i64 0),(.int .i64 0),(.int .i64 0),(.int .i64 0),(.int .i64 0),(.int .i64 0),(.int .i64 0),(.int .i64 0),(.int .i64 0),(.int .i64 0),(.int .i64 0)] 198)
def Ba:List (Nat × Nat × Nat):=[(0,0,1048576),(0,1,1048576),(0,2,1048576),(1,0,10),(1,1,1048576),(1,2,1048576),(2,0,1048576),(2,1,5),(2,2,1048576),(3,0,15),(3,1,19),(3,2,1048576),(4,0,1048576),(4,1,1048576),(4,2,20),(5,0,35),(5,1,1048576),(5,2,1048576),(6,0,1048576),(6,1,1048576),(6,2,27),(7,0,42),(7,1,1048576),(7,2,1048576)]
def Uz (b:Nat) (x:Nat × Nat × Nat):MapEntry:=⟨.agg ⟨[.int .i64 x.1,.int .i64 x.2.1]⟩,.int .i64 x.2.2,b⟩
def Bo:Nat->List (Nat × Nat × Nat)->List MapEntry
 |_,[]=>[]
 |b,x::l=>Uz b x::Bo (b+1) l
def YT:A9:=.map (Bo 0 Ba) 24
def Gu:List (Nat × A9):=[(12,UC),(15150,bK),(17098,YT)]
def K0:List Value:=[(.agg ⟨[(.int .i64 500),(.int .i64 500),(.slice (some ⟨12,0,none⟩) 3 3)]⟩),(.slice (some ⟨14369,0,(some 23)⟩) 24 0)]
def Lx (x:Nat × Nat × Nat):AE.Memo.Kept:=⟨[.pointer (some ⟨15150,0,none⟩),.map (some 17098),.agg ⟨[.int .i64 x.1,.int .i64 x.2.1]⟩],17543,Gu,.int .i64 x.2.2⟩
def isIn (x:Nat × Nat × Nat):Bool:=Nat.beq (Nat.mod (Nat.div x.1 (Nat.pow 2 x.2.1)) 2) 1
theorem cP:(Ba.filter isIn).all (fun x=>(Lx x).run Tryz.prog kt Ow Jk L9 1000000 1000000 428)=true:=by kernel_rfl
def fI (n:Nat):Nat:=n%2+n / 2%2+n / 4%2
def Qs (n:Nat):AE.Memo.Kept:=⟨[.int .u64 n],0,[],.int .i64 (fI n)⟩
theorem bN:(List.range 8).all (fun n=>(Qs n).run Tryz.prog kt Ow Jk L9 1000000 1000000 429)=true:=by kernel_rfl
def JX (o:Option Value) (v:Value):Bool:=match o with
 |some w=>AE.Memo.Mp 20000 8 w v
 |none=>false
def Ol:List (Nat × A9):=Gu++[(17538,.cells [.int .i64 0,.int .i64 0] 601),(17541,.cells [.int .i64 0,.int .i64 0] 601)]
noncomputable def ax (e:Exit) (tk:Dk) (kh:KH):Bool:=match e with
 |.normal=>JX (tk.get 6) (.pointer (some ⟨15150,0,none⟩))&&JX (tk.get 9) (.map (some 17098))&&JX (tk.get 12) (.int .i64 0)&&JX (tk.get 13) (.pointer (some ⟨17538,0,none⟩))&&JX (tk.get 14) (.pointer (some ⟨17541,0,none⟩))&&Nat.beq kh.next 17543&&AE.Memo.rowsFit 17543 kh Ol
 |_=>false
theorem bI:AE.Memo.Qp [(12,UC),(14369,Yk)] .nil (fun t=>Pl (fun tk=>AE.KerD.Cn Tryz.prog kt Ow Jk L9 1000000 1000000 (.code 14370 (fq kz) ax tk ⟨14370,t⟩)) K0 0 .nil)=true:=by kernel_rfl
end AE.Tryz
