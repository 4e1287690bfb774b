/- The closed facts of the row of TopBilledRuns, in parts. -/
import Derived.Test.YtbgiemgoafjohaaGreatDoorRows
import Derived.OpenShut
import Derived.JoinedOf
import Derived.KernelRfl
import Derived.Test.YtbgiemgoafjohaaGreatDoorTopBilledRunsJfc
import Derived.Test.YtbgiemgoafjohaaGreatDoorT12Gn
set_option linter.unusedVariables false
set_option linter.unusedSimpArgs false
set_option linter.unusedSectionVars false
namespace Go.Proofs.YtbgiemgoafjohaaGreatDoor.topBilledRunsJf
open Go Go.Proofs Go.Proofs.YtbgiemgoafjohaaGreatDoor AE.Tryz
set_option maxRecDepth 100000
def YV:List FuncId:=[3,8,36,81,9,37,82,146,212,279,379,380,477,555,68,137,478,556,381,479,557,267,362,382,480,481,558,565,600,559,563,599,564,562,560,561,383,384,482,484,483,385,485,386,387,280,388,34,80,75,142,141,208,143,112,113,79,144,209,210,145,211,389,486,487,566,390,488,76,567,489,568,569,391,392,393,281,394,395,490,570,342,459,571,491,572,492,493,396,494,573,498,574,500,496,575,397,495,501,497,398,499,576,399,400,401,402,502,577,503,578,403,504,404,405,505,282,406,408,407,506,513,512,581,601,511,507,579,508,580,544,369,472,596,409,509,510,514,515,410,516,582,412,411,517,519,584,585,583,602,518,413,520,521,522,213,283,284,414,417,240,348,524,415,416,523,285,418,525,529,526,527,419,528,286,287,420,288,421,422,423,289,290,291,292,214,293,294,40,100,183,268,184,101,185,424,295,425,530,586,103,10,41,102,186,104,296,426,428,531,427,532,297,429,533,534,298,430,299,300,147,215,216,219,301,303,316,439,540,440,441,432,305,433,312,307,317,442,541,443,535,437,309,308,310,536,431,537,538,302,311,435,322,313,436,314,217,218,304,306,434,220,315,438,271,372,373,539,587,593,606,588,603,589,468,469,590,604,605,607,591,592,594,595,221,223,222,318,444,319,320,445,321,324,323,224,225,325,327,446,449,326,448,447,226,328,329,227,148,228,230,229,330,450,542,543,458,546,331,451,452,346,460,333,332,453,545,455,454,231,334,335,336,232,337,456,457,233,338,339,340,341,343,234,344,235,345,347,236,237,83,149,150,151,59,124,125,60,128,126,120,192,127,118,191,274,273,119,122,193,275,238,123,152,57,121,239,26,58,153,241,242,154,243,349,461,350,155,244,156,157,158,25,56,245,159,246,27,61,84,160,161,46,108,47,109,190,272,110,111,52,162,247,248,351,48,114,163,249,250,352,164,54,116,117,165,23,51,53,19,49,166,22,167,168,38,86,85,169,251,353,252,174,260,356,171,176,170,253,262,357,261,254,178,263,255,354,355,175,87,88,172,256,173,257,258,259,89,90,177,91,92,93,94,39,95,12,14,42,62,129,194,130,65,134,195,196,197,198,199,200,201,202,276,203,135,105,15,43,107,189,106,187,269,188,270,363,364,467,365,366,470,471,552,367,368,370,371,96,71,138,204,277,374,205,206,278,375,376,473,474,377,378,475,476,553,554,207,28,63,70,131,72,29,64,132,133,30,66,67,136,69,97,179,264,358,462,98,180,265,359,463,464,547,360,465,361,466,548,597,549,550,551,598,181,266,182,16,99,11,13]
theorem ry:Tryz.prog.closure 3=YV:=by kernel_rfl
theorem small:YV.all (fun g=>Nat.blt g 636)=true:=by kernel_rfl
theorem RB {g:FuncId}(h:g∈YV):g<636:=by
 have:=List.all_eq_true.1 small g h
 exact Nat.lt_of_lt_of_le (Nat.le_of_ble_eq_true this) (Nat.le_refl _)
theorem j1:(Rows.topBilledRunsRow.inPlace==Tryz.prog.inPlace 3)=true:=by
 unfold Program.inPlace
 rw[ry]
 kernel_rfl
theorem rG:Tryz.prog.unfollowed 3=true:=by
 unfold Program.unfollowed
 rw[ry]
 kernel_rfl
theorem j2:(Rows.topBilledRunsRow.unfollowed==Tryz.prog.unfollowed 3)=true:=by
 rw[rG]
 kernel_rfl
theorem j3:(Rows.topBilledRunsRow.recurses==Tryz.prog.recurses 3)=true:=by
 unfold Program.recurses
 rw[rG,Bool.true_or]
 kernel_rfl
theorem fm {α:Type}{l:List FuncId}{p q:FuncId->List α}(h:∀g,g∈l->p g=q g):l.flatMap p=l.flatMap q:=by
 induction l with
 |nil=>rfl
 |cons a r ih=>rw[List.flatMap_cons,List.flatMap_cons,h a (List.mem_cons_self ..),ih fun g hg=>h g (List.mem_cons_of_mem _ hg)]
theorem ft {α:Type}{l:List FuncId}{p q:FuncId->Option α}(h:∀g,g∈l->p g=q g):l.filterMap p=l.filterMap q:=by
 induction l with
 |nil=>rfl
 |cons a r ih=>rw[List.filterMap_cons,List.filterMap_cons,h a (List.mem_cons_self ..),ih fun g hg=>h g (List.mem_cons_of_mem _ hg)]
theorem h1:YV.flatMap (fun g=>((Tryz.prog.funcs[g]?).bind (·.body)).elim [] Code.globalsNamed)=YV.flatMap HZ:=fm fun g hg=>lI (RB hg)
theorem h2:YV.filterMap (fun g=>(Tryz.prog.funcs[g]?).bind fun fn=>if fn.body.isNone then entryReads.lookup fn.name else none)=YV.filterMap H8:=ft fun g hg=>mw (RB hg)
theorem uB:Tryz.prog.varsNamed 3=(((YV.flatMap HZ).eraseDups.filterMap (fun g=>(Tryz.prog.globals[g]?).map (·.name)))++YV.filterMap H8).eraseDups:=by
 unfold Program.varsNamed
 rw[ry,h1,h2]
theorem uA:(Rows.topBilledRunsRow.named==(((YV.flatMap HZ).eraseDups.filterMap (fun g=>(Tryz.prog.globals[g]?).map (·.name)))++YV.filterMap H8).eraseDups)=true:=by kernel_rfl
theorem j4:(Rows.topBilledRunsRow.named==Tryz.prog.varsNamed 3)=true:=by
 rw[uB]
 exact uA
theorem j5:(mapsRowed Tryz.prog)=true:=jfc.j5
theorem j6:(Tryz.prog.stopsHeard)=true:=jfc.j6
theorem j7:(Tryz.prog.mayEnter)=true:=jfc.j7
theorem j8:(Rows.topBilledRunsRow.plainKeys==Tryz.prog.plainKeys)=true:=jfc.j8
theorem j9:(Rows.topBilledRunsRow.lifted==Tryz.prog.liftsFinal)=true:=jfc.j9
theorem j10:(laidOutB Tryz.prog)=true:=jfc.j10
theorem both {a b:Bool}(h:a=true) (k:b=true):(a&&b)=true:=by rw[h,k];rfl
theorem closed:joinedFacts Tryz.prog 3 Tryz.f3 Rows.topBilledRunsSpec Rows.topBilledRunsRow=true:=by
 unfold joinedFacts
 exact(both (both (both (both (both (both (both (both (both (both (both (both (both (both (both (both (both (both (both (both (both (both (both (both (both (both (both (both (both (both (both (by kernel_rfl) j10) j5) (by kernel_rfl)) (by kernel_rfl)) (by kernel_rfl)) (by kernel_rfl)) (by kernel_rfl)) (by kernel_rfl)) j1) j2) j3) j4) (by kernel_rfl)) (by kernel_rfl)) (by kernel_rfl)) (by kernel_rfl)) (by kernel_rfl)) (by kernel_rfl)) (by kernel_rfl)) (by kernel_rfl)) (by kernel_rfl)) j8) (by kernel_rfl)) j6) j7) j9) (by kernel_rfl)) (by kernel_rfl)) (by kernel_rfl)) (by kernel_rfl)) (by kernel_rfl))
end Go.Proofs.YtbgiemgoafjohaaGreatDoor.topBilledRunsJf
