/-
  No cell of these rows narrows 'for every input' (looked for: loops, veiled, ifaces, maps, wideKeys, modest, calm, conditions, laid).
  DERIVED. THE GIVEN ROWS OF THIS SEAT. 4 by the template 'for every input the law returns true; each argument reads behind the call as it read before'; 0 by the template 'total and deterministic' (their statements: YtneenfjffejnoaaGreatTotals.lean).
  GIVEN WITH THE SEED: the statements are not yours to turn. If you find one false, say at which input.
  Laid BY PROGRAM, IN A SANDBOX (cutbox-rows.mjs): the forced cells as the released guide's own fill.sh prints them over the translation 2fae5b5945106158… (all of the seat's roots in one cut). By AI agents, Wed Nov 11 2026. No macro, syntax, notation, axiom, sorry.
-/
import Derived.Test.YtneenfjffejnoaaGreatChecked
import GoSem.Claim
import GoSem.ClaimJoined
import GoSem.ClaimMapViews
import Derived.JoinedTies
import Derived.KernelRfl
namespace Go.Proofs.YtneenfjffejnoaaGreat
/- THE CELL 'sum', in the pinned program and in every row, IS THE sha256 OF THE DUMP (.gsa) THAT YtneenfjffejnoaaGreatProg.lean LOADS. Nothing in Lean hashes anything: it is a label: what it is worth is what the hold of that sum in a sandbox is worth. -/
noncomputable def Tryz.pinned : Pinned := { name := "ytneenfjffejnoaagreat", sum := "2fae5b59451061583cbf1a694c76c261a00bb96fadd0919b9d8814727bb018b9", checked := Tryz.checked }
namespace Rows
def none {H : Type} : Left H := { results := [], args := [] }

/-- 'tumblehometop.TopOneTank': WHATEVER THE INPUT: true; the input reads as it did. -/
def topOneTankSpec : ChangeSpec := { name := "topOneTank", fn := fun _ => fun
  | [d1, d2] => { results := [.lit (.bool true)], args := [d1, d2] }
  | _ => none }
def topOneTankRow : OpenClaim := { program := "ytneenfjffejnoaagreat", sum := "2fae5b59451061583cbf1a694c76c261a00bb96fadd0919b9d8814727bb018b9", func := "tumblehome/tumblehometop.TopOneTank", spec := "topOneTank", inPlace := ["maps.clone"], unfollowed := true, recurses := true, plainKeys := false, apart := false }
def TopOneTankSaid : Prop := topOneTankRow.holds Tryz.pinned (OpenSpec.ofChange topOneTankSpec)

/-- ITS FALSE NEIGHBOUR: 'it returns false'. Refute it at one input. -/
def topOneTankWrong : ChangeSpec := { name := "topOneTank", fn := fun _ => fun
  | [d1, d2] => { results := [.lit (.bool false)], args := [d1, d2] }
  | _ => none }
def TopOneTankWrongFalsely : Prop := topOneTankRow.holds Tryz.pinned (OpenSpec.ofChange topOneTankWrong)

/-- 'tumblehometop.TopDragAgrees': WHATEVER THE INPUT: true; the input reads as it did. -/
def topDragAgreesSpec : ChangeSpec := { name := "topDragAgrees", fn := fun _ => fun
  | [d1, d2] => { results := [.lit (.bool true)], args := [d1, d2] }
  | _ => none }
def topDragAgreesRow : OpenClaim := { program := "ytneenfjffejnoaagreat", sum := "2fae5b59451061583cbf1a694c76c261a00bb96fadd0919b9d8814727bb018b9", func := "tumblehome/tumblehometop.TopDragAgrees", spec := "topDragAgrees", inPlace := ["maps.clone"], unfollowed := true, recurses := true, plainKeys := false, apart := false }
def TopDragAgreesSaid : Prop := topDragAgreesRow.holds Tryz.pinned (OpenSpec.ofChange topDragAgreesSpec)

/-- ITS FALSE NEIGHBOUR: 'it returns false'. Refute it at one input. -/
def topDragAgreesWrong : ChangeSpec := { name := "topDragAgrees", fn := fun _ => fun
  | [d1, d2] => { results := [.lit (.bool false)], args := [d1, d2] }
  | _ => none }
def TopDragAgreesWrongFalsely : Prop := topDragAgreesRow.holds Tryz.pinned (OpenSpec.ofChange topDragAgreesWrong)

/-- 'tumblehometop.TopFairTanks': WHATEVER THE INPUT: true; the input reads as it did. -/
def topFairTanksSpec : ChangeSpec := { name := "topFairTanks", fn := fun _ => fun
  | [d1, d2, d3] => { results := [.lit (.bool true)], args := [d1, d2, d3] }
  | _ => none }
def topFairTanksRow : OpenClaim := { program := "ytneenfjffejnoaagreat", sum := "2fae5b59451061583cbf1a694c76c261a00bb96fadd0919b9d8814727bb018b9", func := "tumblehome/tumblehometop.TopFairTanks", spec := "topFairTanks", inPlace := ["maps.clone"], unfollowed := true, recurses := true, plainKeys := false, apart := false }
def TopFairTanksSaid : Prop := topFairTanksRow.holds Tryz.pinned (OpenSpec.ofChange topFairTanksSpec)

/-- ITS FALSE NEIGHBOUR: 'it returns false'. Refute it at one input. -/
def topFairTanksWrong : ChangeSpec := { name := "topFairTanks", fn := fun _ => fun
  | [d1, d2, d3] => { results := [.lit (.bool false)], args := [d1, d2, d3] }
  | _ => none }
def TopFairTanksWrongFalsely : Prop := topFairTanksRow.holds Tryz.pinned (OpenSpec.ofChange topFairTanksWrong)

/-- 'tumblehometop.TopMeasuredHull': WHATEVER THE INPUT: true; the input reads as it did. -/
def topMeasuredHullSpec : ChangeSpec := { name := "topMeasuredHull", fn := fun _ => fun
  | [d1, d2, d3] => { results := [.lit (.bool true)], args := [d1, d2, d3] }
  | _ => none }
def topMeasuredHullRow : OpenClaim := { program := "ytneenfjffejnoaagreat", sum := "2fae5b59451061583cbf1a694c76c261a00bb96fadd0919b9d8814727bb018b9", func := "tumblehome/tumblehometop.TopMeasuredHull", spec := "topMeasuredHull", inPlace := ["maps.clone"], unfollowed := true, recurses := true, plainKeys := false, apart := false }
def TopMeasuredHullSaid : Prop := topMeasuredHullRow.holds Tryz.pinned (OpenSpec.ofChange topMeasuredHullSpec)

/-- ITS FALSE NEIGHBOUR: 'it returns false'. Refute it at one input. -/
def topMeasuredHullWrong : ChangeSpec := { name := "topMeasuredHull", fn := fun _ => fun
  | [d1, d2, d3] => { results := [.lit (.bool false)], args := [d1, d2, d3] }
  | _ => none }
def TopMeasuredHullWrongFalsely : Prop := topMeasuredHullRow.holds Tryz.pinned (OpenSpec.ofChange topMeasuredHullWrong)

/- THE SECOND FORM. 'bulk': how many values and letters a reading holds, each counted each time it is reached (what is shared counts as often as it is met; a slice's spare places count too). A statement '..UptoSaid' is the law's where the arguments, and the package variables that the reading takes, are together of bulk at most 1048576: NARROWER than '..Said'. Prove '..Said' where nothing that the law and all that it calls make is longer than what came in: it says more and counts as full. Else prove '..UptoSaid'. A law counts once. -/
mutual
def uptoBulk {H : Type} : DataW H → Nat
  | .lit (.string bytes) => bytes.length + 1
  | .lit _ => 1
  | .nil => 1
  | .ptr d => uptoBulk d + 1
  | .slice elems spare => uptoBulkAll elems + uptoBulkAll spare + 1
  | .agg parts => uptoBulkAll parts + 1
  | .iface _ d => uptoBulk d + 1
  | .map entries => uptoBulkEntries entries + 1
  | .held _ => 1
def uptoBulkAll {H : Type} : List (DataW H) → Nat
  | [] => 0
  | d :: r => uptoBulk d + uptoBulkAll r
def uptoBulkEntries {H : Type} : List (Lit × DataW H) → Nat
  | [] => 0
  | x :: r => uptoBulkEntry x + uptoBulkEntries r
def uptoBulkEntry {H : Type} : Lit × DataW H → Nat
  | (.string bytes, d) => bytes.length + uptoBulk d + 1
  | (_, d) => uptoBulk d + 1
 end
def uptoSmall : (H : Type) → List (DataW H) → Bool := fun _ ds => decide (uptoBulkAll ds ≤ 1048576)
def OpenSpec.upto (s : _root_.Go.ChangeSpec) : _root_.Go.OpenSpec := { _root_.Go.OpenSpec.ofChange s with cond := some uptoSmall }

/-- 'tumblehometop.TopOneTank', WHERE WHAT IT READS IS OF BULK AT MOST 1048576: true; the input reads as it did. -/
def topOneTankUptoRow : OpenClaim := { program := "ytneenfjffejnoaagreat", sum := "2fae5b59451061583cbf1a694c76c261a00bb96fadd0919b9d8814727bb018b9", func := "tumblehome/tumblehometop.TopOneTank", spec := "topOneTank", inPlace := ["maps.clone"], unfollowed := true, recurses := true, plainKeys := false, apart := false, narrowed := true }
def TopOneTankUptoSaid : Prop := topOneTankUptoRow.holds Tryz.pinned (OpenSpec.upto topOneTankSpec)

/-- 'tumblehometop.TopDragAgrees', WHERE WHAT IT READS IS OF BULK AT MOST 1048576: true; the input reads as it did. -/
def topDragAgreesUptoRow : OpenClaim := { program := "ytneenfjffejnoaagreat", sum := "2fae5b59451061583cbf1a694c76c261a00bb96fadd0919b9d8814727bb018b9", func := "tumblehome/tumblehometop.TopDragAgrees", spec := "topDragAgrees", inPlace := ["maps.clone"], unfollowed := true, recurses := true, plainKeys := false, apart := false, narrowed := true }
def TopDragAgreesUptoSaid : Prop := topDragAgreesUptoRow.holds Tryz.pinned (OpenSpec.upto topDragAgreesSpec)

/-- 'tumblehometop.TopFairTanks', WHERE WHAT IT READS IS OF BULK AT MOST 1048576: true; the input reads as it did. -/
def topFairTanksUptoRow : OpenClaim := { program := "ytneenfjffejnoaagreat", sum := "2fae5b59451061583cbf1a694c76c261a00bb96fadd0919b9d8814727bb018b9", func := "tumblehome/tumblehometop.TopFairTanks", spec := "topFairTanks", inPlace := ["maps.clone"], unfollowed := true, recurses := true, plainKeys := false, apart := false, narrowed := true }
def TopFairTanksUptoSaid : Prop := topFairTanksUptoRow.holds Tryz.pinned (OpenSpec.upto topFairTanksSpec)

/-- 'tumblehometop.TopMeasuredHull', WHERE WHAT IT READS IS OF BULK AT MOST 1048576: true; the input reads as it did. -/
def topMeasuredHullUptoRow : OpenClaim := { program := "ytneenfjffejnoaagreat", sum := "2fae5b59451061583cbf1a694c76c261a00bb96fadd0919b9d8814727bb018b9", func := "tumblehome/tumblehometop.TopMeasuredHull", spec := "topMeasuredHull", inPlace := ["maps.clone"], unfollowed := true, recurses := true, plainKeys := false, apart := false, narrowed := true }
def TopMeasuredHullUptoSaid : Prop := topMeasuredHullUptoRow.holds Tryz.pinned (OpenSpec.upto topMeasuredHullSpec)

end Rows
end Go.Proofs.YtneenfjffejnoaaGreat
