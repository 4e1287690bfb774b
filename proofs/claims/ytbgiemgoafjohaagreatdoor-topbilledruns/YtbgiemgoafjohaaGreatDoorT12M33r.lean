/- Calls that are kept of an evaluation. -/
import Derived.Test.YtbgiemgoafjohaaGreatDoorJoin87
import Derived.Test.YtbgiemgoafjohaaGreatDoorJoin56
set_option linter.unusedVariables false
set_option linter.unusedSimpArgs false
set_option linter.unusedSectionVars false
namespace AE.Tryz
open Go AE Go.Proofs
set_option maxRecDepth 1000000
def C5:List (Nat × A9):=[(5,(.cells [(.int .i64 800),(.int .i64 1000)] 2)),(6,(.cells [(.int .i64 0),(.int .i64 400),(.int .i64 800)] 2)),(10,(.cells [(.int .i64 90),(.int .i64 100),(.int .i64 50),(.int .i64 60),(.int .i64 10),(.int .i64 10)] 23)),(14,(.cells [(.int .i64 110),(.int .i64 120),(.int .i64 70),(.int .i64 80),(.int .i64 20),(.int .i64 40)] 23)),(15,(.cells [(.slice (some ⟨10,0,none⟩) 3 3),(.slice (some ⟨14,0,none⟩) 3 3)] 167))]
def EB:List AE.Memo.Kept:=[⟨[(.agg ⟨[(.slice (some ⟨5,0,none⟩) 2 2),(.slice (some ⟨6,0,none⟩) 3 3),(.slice (some ⟨15,0,none⟩) 2 2)]⟩),(.agg ⟨[(.int .i64 1000),(.int .i64 0)]⟩),(.agg ⟨[(.int .i64 900),(.int .i64 0)]⟩),(.bool false)],16,C5,(.agg ⟨[(.int .i64 5),(.int .i64 1)]⟩)⟩,
 ⟨[(.agg ⟨[(.slice (some ⟨5,0,none⟩) 2 2),(.slice (some ⟨6,0,none⟩) 3 3),(.slice (some ⟨15,0,none⟩) 2 2)]⟩),(.agg ⟨[(.int .i64 1000),(.int .i64 0)]⟩),(.agg ⟨[(.int .i64 900),(.int .i64 0)]⟩),(.bool true)],16,C5,(.agg ⟨[(.int .i64 15),(.int .i64 1)]⟩)⟩,
 ⟨[(.agg ⟨[(.slice (some ⟨5,0,none⟩) 2 2),(.slice (some ⟨6,0,none⟩) 3 3),(.slice (some ⟨15,0,none⟩) 2 2)]⟩),(.agg ⟨[(.int .i64 800),(.int .i64 0)]⟩),(.agg ⟨[(.int .i64 800),(.int .i64 0)]⟩),(.bool false)],16,C5,(.agg ⟨[(.int .i64 0),(.int .i64 1)]⟩)⟩,
 ⟨[(.agg ⟨[(.slice (some ⟨5,0,none⟩) 2 2),(.slice (some ⟨6,0,none⟩) 3 3),(.slice (some ⟨15,0,none⟩) 2 2)]⟩),(.agg ⟨[(.int .i64 800),(.int .i64 0)]⟩),(.agg ⟨[(.int .i64 1000),(.int .i64 0)]⟩),(.bool false)],16,C5,(.agg ⟨[(.int .i64 (-30)),(.int .i64 1)]⟩)⟩,
 ⟨[(.agg ⟨[(.slice (some ⟨5,0,none⟩) 2 2),(.slice (some ⟨6,0,none⟩) 3 3),(.slice (some ⟨15,0,none⟩) 2 2)]⟩),(.agg ⟨[(.int .i64 1000),(.int .i64 0)]⟩),(.agg ⟨[(.int .i64 800),(.int .i64 0)]⟩),(.bool false)],16,C5,(.agg ⟨[(.int .i64 10),(.int .i64 1)]⟩)⟩,
 ⟨[(.agg ⟨[(.slice (some ⟨5,0,none⟩) 2 2),(.slice (some ⟨6,0,none⟩) 3 3),(.slice (some ⟨15,0,none⟩) 2 2)]⟩),(.agg ⟨[(.int .i64 1000),(.int .i64 0)]⟩),(.agg ⟨[(.int .i64 1000),(.int .i64 0)]⟩),(.bool false)],16,C5,(.agg ⟨[(.int .i64 0),(.int .i64 1)]⟩)⟩,
 ⟨[(.agg ⟨[(.slice (some ⟨5,0,none⟩) 2 2),(.slice (some ⟨6,0,none⟩) 3 3),(.slice (some ⟨15,0,none⟩) 2 2)]⟩),(.agg ⟨[(.int .i64 900),(.int .i64 0)]⟩),(.agg ⟨[(.int .i64 800),(.int .i64 0)]⟩),(.bool false)],16,C5,(.agg ⟨[(.int .i64 5),(.int .i64 1)]⟩)⟩,
 ⟨[(.agg ⟨[(.slice (some ⟨5,0,none⟩) 2 2),(.slice (some ⟨6,0,none⟩) 3 3),(.slice (some ⟨15,0,none⟩) 2 2)]⟩),(.agg ⟨[(.int .i64 900),(.int .i64 0)]⟩),(.agg ⟨[(.int .i64 1000),(.int .i64 0)]⟩),(.bool false)],16,C5,(.agg ⟨[(.int .i64 (-15)),(.int .i64 1)]⟩)⟩,
 ⟨[(.agg ⟨[(.slice (some ⟨5,0,none⟩) 2 2),(.slice (some ⟨6,0,none⟩) 3 3),(.slice (some ⟨15,0,none⟩) 2 2)]⟩),(.agg ⟨[(.int .i64 800),(.int .i64 0)]⟩),(.agg ⟨[(.int .i64 800),(.int .i64 0)]⟩),(.bool true)],16,C5,(.agg ⟨[(.int .i64 0),(.int .i64 1)]⟩)⟩,
 ⟨[(.agg ⟨[(.slice (some ⟨5,0,none⟩) 2 2),(.slice (some ⟨6,0,none⟩) 3 3),(.slice (some ⟨15,0,none⟩) 2 2)]⟩),(.agg ⟨[(.int .i64 800),(.int .i64 0)]⟩),(.agg ⟨[(.int .i64 1000),(.int .i64 0)]⟩),(.bool true)],16,C5,(.agg ⟨[(.int .i64 (-10)),(.int .i64 1)]⟩)⟩,
 ⟨[(.agg ⟨[(.slice (some ⟨5,0,none⟩) 2 2),(.slice (some ⟨6,0,none⟩) 3 3),(.slice (some ⟨15,0,none⟩) 2 2)]⟩),(.agg ⟨[(.int .i64 1000),(.int .i64 0)]⟩),(.agg ⟨[(.int .i64 800),(.int .i64 0)]⟩),(.bool true)],16,C5,(.agg ⟨[(.int .i64 30),(.int .i64 1)]⟩)⟩,
 ⟨[(.agg ⟨[(.slice (some ⟨5,0,none⟩) 2 2),(.slice (some ⟨6,0,none⟩) 3 3),(.slice (some ⟨15,0,none⟩) 2 2)]⟩),(.agg ⟨[(.int .i64 1000),(.int .i64 0)]⟩),(.agg ⟨[(.int .i64 1000),(.int .i64 0)]⟩),(.bool true)],16,C5,(.agg ⟨[(.int .i64 0),(.int .i64 1)]⟩)⟩,
 ⟨[(.agg ⟨[(.slice (some ⟨5,0,none⟩) 2 2),(.slice (some ⟨6,0,none⟩) 3 3),(.slice (some ⟨15,0,none⟩) 2 2)]⟩),(.agg ⟨[(.int .i64 900),(.int .i64 0)]⟩),(.agg ⟨[(.int .i64 800),(.int .i64 0)]⟩),(.bool true)],16,C5,(.agg ⟨[(.int .i64 15),(.int .i64 1)]⟩)⟩,
 ⟨[(.agg ⟨[(.slice (some ⟨5,0,none⟩) 2 2),(.slice (some ⟨6,0,none⟩) 3 3),(.slice (some ⟨15,0,none⟩) 2 2)]⟩),(.agg ⟨[(.int .i64 900),(.int .i64 0)]⟩),(.agg ⟨[(.int .i64 1000),(.int .i64 0)]⟩),(.bool true)],16,C5,(.agg ⟨[(.int .i64 (-5)),(.int .i64 1)]⟩)⟩]
end AE.Tryz
