/- The closed facts of the row of TopOneTank, in parts. -/
import Derived.Test.YtneenfjffejnoaaGreatRows
import Derived.OpenShut
import Derived.JoinedOf
import Derived.KernelRfl
import Derived.Test.YtneenfjffejnoaaGreatTopMeasuredHullJfc
set_option linter.unusedVariables false
set_option linter.unusedSimpArgs false
set_option linter.unusedSectionVars false
namespace Go.Proofs.YtneenfjffejnoaaGreat.topOneTankJf
open Go Go.Proofs Go.Proofs.YtneenfjffejnoaaGreat
set_option maxRecDepth 100000
theorem j1:(Rows.topOneTankRow.inPlace==Tryz.prog.inPlace 3)=true:=by kernel_rfl
theorem j2:(Rows.topOneTankRow.unfollowed==Tryz.prog.unfollowed 3)=true:=by kernel_rfl
theorem j3:(Rows.topOneTankRow.recurses==Tryz.prog.recurses 3)=true:=by kernel_rfl
theorem j4:(Rows.topOneTankRow.named==Tryz.prog.varsNamed 3)=true:=by kernel_rfl
theorem j5:(mapsRowed Tryz.prog)=true:=jfc.j5
theorem j6:(Tryz.prog.stopsHeard)=true:=jfc.j6
theorem j7:(Tryz.prog.mayEnter)=true:=jfc.j7
theorem j8:(Rows.topOneTankRow.plainKeys==Tryz.prog.plainKeys)=true:=jfc.j8
theorem j9:(Rows.topOneTankRow.lifted==Tryz.prog.liftsFinal)=true:=jfc.j9
theorem j10:(laidOutB Tryz.prog)=true:=jfc.j10
theorem both {a b:Bool}(h:a=true) (k:b=true):(a&&b)=true:=by rw[h,k];rfl
theorem closed:joinedFacts Tryz.prog 3 Tryz.f3 Rows.topOneTankSpec Rows.topOneTankRow=true:=by
 unfold joinedFacts
 exact(both (both (both (both (both (both (both (both (both (both (both (both (both (both (both (both (both (both (both (both (both (both (both (both (both (both (both (both (both (both (both (by kernel_rfl) j10) j5) (by kernel_rfl)) (by kernel_rfl)) (by kernel_rfl)) (by kernel_rfl)) (by kernel_rfl)) (by kernel_rfl)) j1) j2) j3) j4) (by kernel_rfl)) (by kernel_rfl)) (by kernel_rfl)) (by kernel_rfl)) (by kernel_rfl)) (by kernel_rfl)) (by kernel_rfl)) (by kernel_rfl)) (by kernel_rfl)) j8) (by kernel_rfl)) j6) j7) j9) (by kernel_rfl)) (by kernel_rfl)) (by kernel_rfl)) (by kernel_rfl)) (by kernel_rfl))
end Go.Proofs.YtneenfjffejnoaaGreat.topOneTankJf
