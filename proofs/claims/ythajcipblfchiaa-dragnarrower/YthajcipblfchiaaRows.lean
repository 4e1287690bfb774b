/-
  No cell of these rows narrows 'for every input' (looked for: loops, veiled, ifaces, maps, wideKeys, modest, calm, conditions, laid).
  DERIVED. THE GIVEN ROWS OF THIS SEAT. 10 by the template 'for every input the law returns true; each argument reads behind the call as it read before'; 0 by the template 'total and deterministic' (their statements: YthajcipblfchiaaTotals.lean).
  GIVEN WITH THE SEED: the statements are not yours to turn. If you find one false, say at which input.
  Laid BY PROGRAM, IN A SANDBOX (cutbox-rows.mjs): the forced cells as the released guide's own fill.sh prints them over the translation e6291312e1751169… (all of the seat's roots in one cut). By AI agents, Wed Nov 11 2026. No macro, syntax, notation, axiom, sorry.
-/
import Derived.Test.YthajcipblfchiaaChecked
import GoSem.Claim
import GoSem.ClaimJoined
import GoSem.ClaimMapViews
import Derived.JoinedTies
import Derived.KernelRfl
namespace Go.Proofs.Ythajcipblfchiaa
/- THE CELL 'sum', in the pinned program and in every row, IS THE sha256 OF THE DUMP (.gsa) THAT YthajcipblfchiaaProg.lean LOADS. Nothing in Lean hashes anything: it is a label: what it is worth is what the hold of that sum in a sandbox is worth. -/
noncomputable def Try.pinned : Pinned := { name := "ythajcipblfchiaa", sum := "e6291312e1751169f5ecc58d3da6b863957d1c32e04c8f4e935b279ca4c28ef1", checked := Try.checked }
namespace Rows
def none {H : Type} : Left H := { results := [], args := [] }

/-- 'tumblehomelaw04.DragLines': WHATEVER THE INPUT: true; the input reads as it did. -/
def dragLinesSpec : ChangeSpec := { name := "dragLines", fn := fun _ => fun
  | [d1, d2] => { results := [.lit (.bool true)], args := [d1, d2] }
  | _ => none }
def dragLinesRow : OpenClaim := { program := "ythajcipblfchiaa", sum := "e6291312e1751169f5ecc58d3da6b863957d1c32e04c8f4e935b279ca4c28ef1", func := "tumblehome/tumblehomelaw04.DragLines", spec := "dragLines", unfollowed := true, recurses := true, apart := false }
def DragLinesSaid : Prop := dragLinesRow.holds Try.pinned (OpenSpec.ofChange dragLinesSpec)

/-- ITS FALSE NEIGHBOUR: 'it returns false'. Refute it at one input. -/
def dragLinesWrong : ChangeSpec := { name := "dragLines", fn := fun _ => fun
  | [d1, d2] => { results := [.lit (.bool false)], args := [d1, d2] }
  | _ => none }
def DragLinesWrongFalsely : Prop := dragLinesRow.holds Try.pinned (OpenSpec.ofChange dragLinesWrong)

/-- 'tumblehomelaw04.DragShips': WHATEVER THE INPUT: true; the input reads as it did. -/
def dragShipsSpec : ChangeSpec := { name := "dragShips", fn := fun _ => fun
  | [d1, d2, d3] => { results := [.lit (.bool true)], args := [d1, d2, d3] }
  | _ => none }
def dragShipsRow : OpenClaim := { program := "ythajcipblfchiaa", sum := "e6291312e1751169f5ecc58d3da6b863957d1c32e04c8f4e935b279ca4c28ef1", func := "tumblehome/tumblehomelaw04.DragShips", spec := "dragShips", unfollowed := true, recurses := true, apart := false }
def DragShipsSaid : Prop := dragShipsRow.holds Try.pinned (OpenSpec.ofChange dragShipsSpec)

/-- ITS FALSE NEIGHBOUR: 'it returns false'. Refute it at one input. -/
def dragShipsWrong : ChangeSpec := { name := "dragShips", fn := fun _ => fun
  | [d1, d2, d3] => { results := [.lit (.bool false)], args := [d1, d2, d3] }
  | _ => none }
def DragShipsWrongFalsely : Prop := dragShipsRow.holds Try.pinned (OpenSpec.ofChange dragShipsWrong)

/-- 'tumblehomelaw04.DragHolds': WHATEVER THE INPUT: true; the input reads as it did. -/
def dragHoldsSpec : ChangeSpec := { name := "dragHolds", fn := fun _ => fun
  | [d1, d2, d3] => { results := [.lit (.bool true)], args := [d1, d2, d3] }
  | _ => none }
def dragHoldsRow : OpenClaim := { program := "ythajcipblfchiaa", sum := "e6291312e1751169f5ecc58d3da6b863957d1c32e04c8f4e935b279ca4c28ef1", func := "tumblehome/tumblehomelaw04.DragHolds", spec := "dragHolds", unfollowed := true, recurses := true, apart := false }
def DragHoldsSaid : Prop := dragHoldsRow.holds Try.pinned (OpenSpec.ofChange dragHoldsSpec)

/-- ITS FALSE NEIGHBOUR: 'it returns false'. Refute it at one input. -/
def dragHoldsWrong : ChangeSpec := { name := "dragHolds", fn := fun _ => fun
  | [d1, d2, d3] => { results := [.lit (.bool false)], args := [d1, d2, d3] }
  | _ => none }
def DragHoldsWrongFalsely : Prop := dragHoldsRow.holds Try.pinned (OpenSpec.ofChange dragHoldsWrong)

/-- 'tumblehomelaw04.DragBoxed': WHATEVER THE INPUT: true; the input reads as it did. -/
def dragBoxedSpec : ChangeSpec := { name := "dragBoxed", fn := fun _ => fun
  | [d1, d2, d3, d4, d5] => { results := [.lit (.bool true)], args := [d1, d2, d3, d4, d5] }
  | _ => none }
def dragBoxedRow : OpenClaim := { program := "ythajcipblfchiaa", sum := "e6291312e1751169f5ecc58d3da6b863957d1c32e04c8f4e935b279ca4c28ef1", func := "tumblehome/tumblehomelaw04.DragBoxed", spec := "dragBoxed", unfollowed := true, recurses := true, apart := false }
def DragBoxedSaid : Prop := dragBoxedRow.holds Try.pinned (OpenSpec.ofChange dragBoxedSpec)

/-- ITS FALSE NEIGHBOUR: 'it returns false'. Refute it at one input. -/
def dragBoxedWrong : ChangeSpec := { name := "dragBoxed", fn := fun _ => fun
  | [d1, d2, d3, d4, d5] => { results := [.lit (.bool false)], args := [d1, d2, d3, d4, d5] }
  | _ => none }
def DragBoxedWrongFalsely : Prop := dragBoxedRow.holds Try.pinned (OpenSpec.ofChange dragBoxedWrong)

/-- 'tumblehomelaw04.DragNarrower': WHATEVER THE INPUT: true; the input reads as it did. -/
def dragNarrowerSpec : ChangeSpec := { name := "dragNarrower", fn := fun _ => fun
  | [d1, d2, d3, d4] => { results := [.lit (.bool true)], args := [d1, d2, d3, d4] }
  | _ => none }
def dragNarrowerRow : OpenClaim := { program := "ythajcipblfchiaa", sum := "e6291312e1751169f5ecc58d3da6b863957d1c32e04c8f4e935b279ca4c28ef1", func := "tumblehome/tumblehomelaw04.DragNarrower", spec := "dragNarrower", unfollowed := true, recurses := true, apart := false }
def DragNarrowerSaid : Prop := dragNarrowerRow.holds Try.pinned (OpenSpec.ofChange dragNarrowerSpec)

/-- ITS FALSE NEIGHBOUR: 'it returns false'. Refute it at one input. -/
def dragNarrowerWrong : ChangeSpec := { name := "dragNarrower", fn := fun _ => fun
  | [d1, d2, d3, d4] => { results := [.lit (.bool false)], args := [d1, d2, d3, d4] }
  | _ => none }
def DragNarrowerWrongFalsely : Prop := dragNarrowerRow.holds Try.pinned (OpenSpec.ofChange dragNarrowerWrong)

/-- 'tumblehomelaw04.DragFalls': WHATEVER THE INPUT: true; the input reads as it did. -/
def dragFallsSpec : ChangeSpec := { name := "dragFalls", fn := fun _ => fun
  | [d1, d2, d3] => { results := [.lit (.bool true)], args := [d1, d2, d3] }
  | _ => none }
def dragFallsRow : OpenClaim := { program := "ythajcipblfchiaa", sum := "e6291312e1751169f5ecc58d3da6b863957d1c32e04c8f4e935b279ca4c28ef1", func := "tumblehome/tumblehomelaw04.DragFalls", spec := "dragFalls", unfollowed := true, recurses := true, apart := false }
def DragFallsSaid : Prop := dragFallsRow.holds Try.pinned (OpenSpec.ofChange dragFallsSpec)

/-- ITS FALSE NEIGHBOUR: 'it returns false'. Refute it at one input. -/
def dragFallsWrong : ChangeSpec := { name := "dragFalls", fn := fun _ => fun
  | [d1, d2, d3] => { results := [.lit (.bool false)], args := [d1, d2, d3] }
  | _ => none }
def DragFallsWrongFalsely : Prop := dragFallsRow.holds Try.pinned (OpenSpec.ofChange dragFallsWrong)

/-- 'tumblehomelaw04.DragSame': WHATEVER THE INPUT: true; the input reads as it did. -/
def dragSameSpec : ChangeSpec := { name := "dragSame", fn := fun _ => fun
  | [d1, d2, d3] => { results := [.lit (.bool true)], args := [d1, d2, d3] }
  | _ => none }
def dragSameRow : OpenClaim := { program := "ythajcipblfchiaa", sum := "e6291312e1751169f5ecc58d3da6b863957d1c32e04c8f4e935b279ca4c28ef1", func := "tumblehome/tumblehomelaw04.DragSame", spec := "dragSame", unfollowed := true, recurses := true, apart := false }
def DragSameSaid : Prop := dragSameRow.holds Try.pinned (OpenSpec.ofChange dragSameSpec)

/-- ITS FALSE NEIGHBOUR: 'it returns false'. Refute it at one input. -/
def dragSameWrong : ChangeSpec := { name := "dragSame", fn := fun _ => fun
  | [d1, d2, d3] => { results := [.lit (.bool false)], args := [d1, d2, d3] }
  | _ => none }
def DragSameWrongFalsely : Prop := dragSameRow.holds Try.pinned (OpenSpec.ofChange dragSameWrong)

/-- 'tumblehomelaw04.DragSpans': WHATEVER THE INPUT: true; the input reads as it did. -/
def dragSpansSpec : ChangeSpec := { name := "dragSpans", fn := fun _ => fun
  | [d1, d2, d3] => { results := [.lit (.bool true)], args := [d1, d2, d3] }
  | _ => none }
def dragSpansRow : OpenClaim := { program := "ythajcipblfchiaa", sum := "e6291312e1751169f5ecc58d3da6b863957d1c32e04c8f4e935b279ca4c28ef1", func := "tumblehome/tumblehomelaw04.DragSpans", spec := "dragSpans", unfollowed := true, recurses := true, apart := false }
def DragSpansSaid : Prop := dragSpansRow.holds Try.pinned (OpenSpec.ofChange dragSpansSpec)

/-- ITS FALSE NEIGHBOUR: 'it returns false'. Refute it at one input. -/
def dragSpansWrong : ChangeSpec := { name := "dragSpans", fn := fun _ => fun
  | [d1, d2, d3] => { results := [.lit (.bool false)], args := [d1, d2, d3] }
  | _ => none }
def DragSpansWrongFalsely : Prop := dragSpansRow.holds Try.pinned (OpenSpec.ofChange dragSpansWrong)

/-- 'tumblehomelaw04.DragAttained': WHATEVER THE INPUT: true; the input reads as it did. -/
def dragAttainedSpec : ChangeSpec := { name := "dragAttained", fn := fun _ => fun
  | [d1, d2] => { results := [.lit (.bool true)], args := [d1, d2] }
  | _ => none }
def dragAttainedRow : OpenClaim := { program := "ythajcipblfchiaa", sum := "e6291312e1751169f5ecc58d3da6b863957d1c32e04c8f4e935b279ca4c28ef1", func := "tumblehome/tumblehomelaw04.DragAttained", spec := "dragAttained", unfollowed := true, recurses := true, apart := false }
def DragAttainedSaid : Prop := dragAttainedRow.holds Try.pinned (OpenSpec.ofChange dragAttainedSpec)

/-- ITS FALSE NEIGHBOUR: 'it returns false'. Refute it at one input. -/
def dragAttainedWrong : ChangeSpec := { name := "dragAttained", fn := fun _ => fun
  | [d1, d2] => { results := [.lit (.bool false)], args := [d1, d2] }
  | _ => none }
def DragAttainedWrongFalsely : Prop := dragAttainedRow.holds Try.pinned (OpenSpec.ofChange dragAttainedWrong)

/-- 'tumblehomelaw04.DragKnown': WHATEVER THE INPUT: true; the input reads as it did. -/
def dragKnownSpec : ChangeSpec := { name := "dragKnown", fn := fun _ => fun
  | [] => { results := [.lit (.bool true)], args := [] }
  | _ => none }
def dragKnownRow : OpenClaim := { program := "ythajcipblfchiaa", sum := "e6291312e1751169f5ecc58d3da6b863957d1c32e04c8f4e935b279ca4c28ef1", func := "tumblehome/tumblehomelaw04.DragKnown", spec := "dragKnown", unfollowed := true, recurses := true, apart := false }
def DragKnownSaid : Prop := dragKnownRow.holds Try.pinned (OpenSpec.ofChange dragKnownSpec)

/-- ITS FALSE NEIGHBOUR: 'it returns false'. Refute it at one input. -/
def dragKnownWrong : ChangeSpec := { name := "dragKnown", fn := fun _ => fun
  | [] => { results := [.lit (.bool false)], args := [] }
  | _ => none }
def DragKnownWrongFalsely : Prop := dragKnownRow.holds Try.pinned (OpenSpec.ofChange dragKnownWrong)

/- THE SECOND FORM. 'bulk': how many values and letters a reading holds, each counted each time it is reached (what is shared counts as often as it is met; a slice's spare places count too). A statement '..UptoSaid' is the law's where the arguments, and the package variables that the reading takes, are together of bulk at most 1048576: NARROWER than '..Said'. Prove '..Said' where nothing that the law and all that it calls make is longer than what came in: it says more and counts as full. Else prove '..UptoSaid'. A law counts once. -/
mutual
def uptoBulk {H : Type} : DataW H → Nat
  | .lit (.string bytes) => bytes.length + 1
  | .lit _ => 1
  | .nil => 1
  | .ptr d => uptoBulk d + 1
  | .slice elems spare => uptoBulkAll elems + uptoBulkAll spare + 1
  | .agg parts => uptoBulkAll parts + 1
  | .iface _ d => uptoBulk d + 1
  | .map entries => uptoBulkEntries entries + 1
  | .held _ => 1
def uptoBulkAll {H : Type} : List (DataW H) → Nat
  | [] => 0
  | d :: r => uptoBulk d + uptoBulkAll r
def uptoBulkEntries {H : Type} : List (Lit × DataW H) → Nat
  | [] => 0
  | x :: r => uptoBulkEntry x + uptoBulkEntries r
def uptoBulkEntry {H : Type} : Lit × DataW H → Nat
  | (.string bytes, d) => bytes.length + uptoBulk d + 1
  | (_, d) => uptoBulk d + 1
 end
def uptoSmall : (H : Type) → List (DataW H) → Bool := fun _ ds => decide (uptoBulkAll ds ≤ 1048576)
def OpenSpec.upto (s : _root_.Go.ChangeSpec) : _root_.Go.OpenSpec := { _root_.Go.OpenSpec.ofChange s with cond := some uptoSmall }

/-- 'tumblehomelaw04.DragLines', WHERE WHAT IT READS IS OF BULK AT MOST 1048576: true; the input reads as it did. -/
def dragLinesUptoRow : OpenClaim := { program := "ythajcipblfchiaa", sum := "e6291312e1751169f5ecc58d3da6b863957d1c32e04c8f4e935b279ca4c28ef1", func := "tumblehome/tumblehomelaw04.DragLines", spec := "dragLines", unfollowed := true, recurses := true, apart := false, narrowed := true }
def DragLinesUptoSaid : Prop := dragLinesUptoRow.holds Try.pinned (OpenSpec.upto dragLinesSpec)

/-- 'tumblehomelaw04.DragShips', WHERE WHAT IT READS IS OF BULK AT MOST 1048576: true; the input reads as it did. -/
def dragShipsUptoRow : OpenClaim := { program := "ythajcipblfchiaa", sum := "e6291312e1751169f5ecc58d3da6b863957d1c32e04c8f4e935b279ca4c28ef1", func := "tumblehome/tumblehomelaw04.DragShips", spec := "dragShips", unfollowed := true, recurses := true, apart := false, narrowed := true }
def DragShipsUptoSaid : Prop := dragShipsUptoRow.holds Try.pinned (OpenSpec.upto dragShipsSpec)

/-- 'tumblehomelaw04.DragHolds', WHERE WHAT IT READS IS OF BULK AT MOST 1048576: true; the input reads as it did. -/
def dragHoldsUptoRow : OpenClaim := { program := "ythajcipblfchiaa", sum := "e6291312e1751169f5ecc58d3da6b863957d1c32e04c8f4e935b279ca4c28ef1", func := "tumblehome/tumblehomelaw04.DragHolds", spec := "dragHolds", unfollowed := true, recurses := true, apart := false, narrowed := true }
def DragHoldsUptoSaid : Prop := dragHoldsUptoRow.holds Try.pinned (OpenSpec.upto dragHoldsSpec)

/-- 'tumblehomelaw04.DragBoxed', WHERE WHAT IT READS IS OF BULK AT MOST 1048576: true; the input reads as it did. -/
def dragBoxedUptoRow : OpenClaim := { program := "ythajcipblfchiaa", sum := "e6291312e1751169f5ecc58d3da6b863957d1c32e04c8f4e935b279ca4c28ef1", func := "tumblehome/tumblehomelaw04.DragBoxed", spec := "dragBoxed", unfollowed := true, recurses := true, apart := false, narrowed := true }
def DragBoxedUptoSaid : Prop := dragBoxedUptoRow.holds Try.pinned (OpenSpec.upto dragBoxedSpec)

/-- 'tumblehomelaw04.DragNarrower', WHERE WHAT IT READS IS OF BULK AT MOST 1048576: true; the input reads as it did. -/
def dragNarrowerUptoRow : OpenClaim := { program := "ythajcipblfchiaa", sum := "e6291312e1751169f5ecc58d3da6b863957d1c32e04c8f4e935b279ca4c28ef1", func := "tumblehome/tumblehomelaw04.DragNarrower", spec := "dragNarrower", unfollowed := true, recurses := true, apart := false, narrowed := true }
def DragNarrowerUptoSaid : Prop := dragNarrowerUptoRow.holds Try.pinned (OpenSpec.upto dragNarrowerSpec)

/-- 'tumblehomelaw04.DragFalls', WHERE WHAT IT READS IS OF BULK AT MOST 1048576: true; the input reads as it did. -/
def dragFallsUptoRow : OpenClaim := { program := "ythajcipblfchiaa", sum := "e6291312e1751169f5ecc58d3da6b863957d1c32e04c8f4e935b279ca4c28ef1", func := "tumblehome/tumblehomelaw04.DragFalls", spec := "dragFalls", unfollowed := true, recurses := true, apart := false, narrowed := true }
def DragFallsUptoSaid : Prop := dragFallsUptoRow.holds Try.pinned (OpenSpec.upto dragFallsSpec)

/-- 'tumblehomelaw04.DragSame', WHERE WHAT IT READS IS OF BULK AT MOST 1048576: true; the input reads as it did. -/
def dragSameUptoRow : OpenClaim := { program := "ythajcipblfchiaa", sum := "e6291312e1751169f5ecc58d3da6b863957d1c32e04c8f4e935b279ca4c28ef1", func := "tumblehome/tumblehomelaw04.DragSame", spec := "dragSame", unfollowed := true, recurses := true, apart := false, narrowed := true }
def DragSameUptoSaid : Prop := dragSameUptoRow.holds Try.pinned (OpenSpec.upto dragSameSpec)

/-- 'tumblehomelaw04.DragSpans', WHERE WHAT IT READS IS OF BULK AT MOST 1048576: true; the input reads as it did. -/
def dragSpansUptoRow : OpenClaim := { program := "ythajcipblfchiaa", sum := "e6291312e1751169f5ecc58d3da6b863957d1c32e04c8f4e935b279ca4c28ef1", func := "tumblehome/tumblehomelaw04.DragSpans", spec := "dragSpans", unfollowed := true, recurses := true, apart := false, narrowed := true }
def DragSpansUptoSaid : Prop := dragSpansUptoRow.holds Try.pinned (OpenSpec.upto dragSpansSpec)

/-- 'tumblehomelaw04.DragAttained', WHERE WHAT IT READS IS OF BULK AT MOST 1048576: true; the input reads as it did. -/
def dragAttainedUptoRow : OpenClaim := { program := "ythajcipblfchiaa", sum := "e6291312e1751169f5ecc58d3da6b863957d1c32e04c8f4e935b279ca4c28ef1", func := "tumblehome/tumblehomelaw04.DragAttained", spec := "dragAttained", unfollowed := true, recurses := true, apart := false, narrowed := true }
def DragAttainedUptoSaid : Prop := dragAttainedUptoRow.holds Try.pinned (OpenSpec.upto dragAttainedSpec)

/-- 'tumblehomelaw04.DragKnown', WHERE WHAT IT READS IS OF BULK AT MOST 1048576: true; the input reads as it did. -/
def dragKnownUptoRow : OpenClaim := { program := "ythajcipblfchiaa", sum := "e6291312e1751169f5ecc58d3da6b863957d1c32e04c8f4e935b279ca4c28ef1", func := "tumblehome/tumblehomelaw04.DragKnown", spec := "dragKnown", unfollowed := true, recurses := true, apart := false, narrowed := true }
def DragKnownUptoSaid : Prop := dragKnownUptoRow.holds Try.pinned (OpenSpec.upto dragKnownSpec)

end Rows
end Go.Proofs.Ythajcipblfchiaa
