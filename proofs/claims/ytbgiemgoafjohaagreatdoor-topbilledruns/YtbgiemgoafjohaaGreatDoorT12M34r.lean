/- Calls that are kept of an evaluation. -/
import Derived.Test.YtbgiemgoafjohaaGreatDoorJoin87
import Derived.Test.YtbgiemgoafjohaaGreatDoorJoin56
set_option linter.unusedVariables false
set_option linter.unusedSimpArgs false
set_option linter.unusedSectionVars false
namespace AE.Tryz
open Go AE Go.Proofs
set_option maxRecDepth 1000000
def Ot:List (Nat × A9):=[(15,(.cells [(.int .i64 0),(.int .i64 0),(.int .i64 100),(.int .i64 102),(.int .i64 0),(.int .i64 1),(.int .i64 50),(.int .i64 51),(.int .i64 1),(.int .i64 0),(.int .i64 105),(.int .i64 106)] 81))]
def Gi:List AE.Memo.Kept:=[⟨[(.agg ⟨[(.int .i64 2),(.int .i64 2),(.int .i64 (-3)),(.int .i64 3),(.slice (some ⟨15,0,none⟩) 3 3)]⟩),(.int .i64 0)],16,Ot,(.tuple ⟨[(.agg ⟨[(.int .i64 102),(.int .i64 105)]⟩),(.int .i64 0)]⟩)⟩,
 ⟨[(.agg ⟨[(.int .i64 2),(.int .i64 2),(.int .i64 (-3)),(.int .i64 3),(.slice (some ⟨15,0,none⟩) 3 3)]⟩),(.int .i64 1)],16,Ot,(.tuple ⟨[(.agg ⟨[(.int .i64 50),(.int .i64 54)]⟩),(.int .i64 0)]⟩)⟩]
def Hq:List AE.Memo.Kept:=[⟨[(.agg ⟨[(.int .i64 2),(.int .i64 2),(.int .i64 (-3)),(.int .i64 3),(.slice (some ⟨15,0,none⟩) 3 3)]⟩),(.int .i64 0),(.int .i64 1)],16,Ot,(.tuple ⟨[(.agg ⟨[(.int .i64 49),(.int .i64 52)]⟩),(.int .i64 0)]⟩)⟩]
end AE.Tryz
