/-
  No cell of these rows narrows 'for every input' (looked for: loops, veiled, ifaces, maps, wideKeys, modest, calm, conditions, laid).
  DERIVED. THE GIVEN ROWS OF THIS SEAT. 4 by the template 'for every input the law returns true; each argument reads behind the call as it read before'; 0 by the template 'total and deterministic' (their statements: YtndkjpkadfpflaaGreatTotals.lean).
  GIVEN WITH THE SEED: the statements are not yours to turn. If you find one false, say at which input.
  Laid BY PROGRAM, IN A SANDBOX (cutbox-rows.mjs): the forced cells as the released guide's own fill.sh prints them over the translation 823bd0d0d48fe31c… (all of the seat's roots in one cut). By AI agents, Wed Nov 11 2026. No macro, syntax, notation, axiom, sorry.
-/
import Derived.Test.YtndkjpkadfpflaaGreatChecked
import GoSem.Claim
import GoSem.ClaimJoined
import GoSem.ClaimMapViews
import Derived.JoinedTies
import Derived.KernelRfl
namespace Go.Proofs.YtndkjpkadfpflaaGreat
/- THE CELL 'sum', in the pinned program and in every row, IS THE sha256 OF THE DUMP (.gsa) THAT YtndkjpkadfpflaaGreatProg.lean LOADS. Nothing in Lean hashes anything: it is a label: what it is worth is what the hold of that sum in a sandbox is worth. -/
noncomputable def Tryz.pinned : Pinned := { name := "ytndkjpkadfpflaagreat", sum := "823bd0d0d48fe31cacaaead0e5b1811dd6ffdd817a3590b59ae2c5e21edf3403", checked := Tryz.checked }
namespace Rows
def none {H : Type} : Left H := { results := [], args := [] }

/-- 'tumblehometop.TopFairHull': WHATEVER THE INPUT: true; the input reads as it did. -/
def topFairHullSpec : ChangeSpec := { name := "topFairHull", fn := fun _ => fun
  | [d1, d2, d3, d4, d5] => { results := [.lit (.bool true)], args := [d1, d2, d3, d4, d5] }
  | _ => none }
def topFairHullRow : OpenClaim := { program := "ytndkjpkadfpflaagreat", sum := "823bd0d0d48fe31cacaaead0e5b1811dd6ffdd817a3590b59ae2c5e21edf3403", func := "tumblehome/tumblehometop.TopFairHull", spec := "topFairHull", unfollowed := true, recurses := true, plainKeys := false, apart := false }
def TopFairHullSaid : Prop := topFairHullRow.holds Tryz.pinned (OpenSpec.ofChange topFairHullSpec)

/-- ITS FALSE NEIGHBOUR: 'it returns false'. Refute it at one input. -/
def topFairHullWrong : ChangeSpec := { name := "topFairHull", fn := fun _ => fun
  | [d1, d2, d3, d4, d5] => { results := [.lit (.bool false)], args := [d1, d2, d3, d4, d5] }
  | _ => none }
def TopFairHullWrongFalsely : Prop := topFairHullRow.holds Tryz.pinned (OpenSpec.ofChange topFairHullWrong)

/-- 'tumblehometop.TopSteppedFriction': WHATEVER THE INPUT: true; the input reads as it did. -/
def topSteppedFrictionSpec : ChangeSpec := { name := "topSteppedFriction", fn := fun _ => fun
  | [d1, d2, d3] => { results := [.lit (.bool true)], args := [d1, d2, d3] }
  | _ => none }
def topSteppedFrictionRow : OpenClaim := { program := "ytndkjpkadfpflaagreat", sum := "823bd0d0d48fe31cacaaead0e5b1811dd6ffdd817a3590b59ae2c5e21edf3403", func := "tumblehome/tumblehometop.TopSteppedFriction", spec := "topSteppedFriction", unfollowed := true, recurses := true, plainKeys := false, apart := false }
def TopSteppedFrictionSaid : Prop := topSteppedFrictionRow.holds Tryz.pinned (OpenSpec.ofChange topSteppedFrictionSpec)

/-- ITS FALSE NEIGHBOUR: 'it returns false'. Refute it at one input. -/
def topSteppedFrictionWrong : ChangeSpec := { name := "topSteppedFriction", fn := fun _ => fun
  | [d1, d2, d3] => { results := [.lit (.bool false)], args := [d1, d2, d3] }
  | _ => none }
def TopSteppedFrictionWrongFalsely : Prop := topSteppedFrictionRow.holds Tryz.pinned (OpenSpec.ofChange topSteppedFrictionWrong)

/-- 'tumblehometop.TopFairTests': WHATEVER THE INPUT: true; the input reads as it did. -/
def topFairTestsSpec : ChangeSpec := { name := "topFairTests", fn := fun _ => fun
  | [d1, d2, d3, d4, d5] => { results := [.lit (.bool true)], args := [d1, d2, d3, d4, d5] }
  | _ => none }
def topFairTestsRow : OpenClaim := { program := "ytndkjpkadfpflaagreat", sum := "823bd0d0d48fe31cacaaead0e5b1811dd6ffdd817a3590b59ae2c5e21edf3403", func := "tumblehome/tumblehometop.TopFairTests", spec := "topFairTests", unfollowed := true, recurses := true, plainKeys := false, apart := false }
def TopFairTestsSaid : Prop := topFairTestsRow.holds Tryz.pinned (OpenSpec.ofChange topFairTestsSpec)

/-- ITS FALSE NEIGHBOUR: 'it returns false'. Refute it at one input. -/
def topFairTestsWrong : ChangeSpec := { name := "topFairTests", fn := fun _ => fun
  | [d1, d2, d3, d4, d5] => { results := [.lit (.bool false)], args := [d1, d2, d3, d4, d5] }
  | _ => none }
def TopFairTestsWrongFalsely : Prop := topFairTestsRow.holds Tryz.pinned (OpenSpec.ofChange topFairTestsWrong)

/-- 'tumblehometop.TopScaledHull': WHATEVER THE INPUT: true; the input reads as it did. -/
def topScaledHullSpec : ChangeSpec := { name := "topScaledHull", fn := fun _ => fun
  | [d1, d2, d3] => { results := [.lit (.bool true)], args := [d1, d2, d3] }
  | _ => none }
def topScaledHullRow : OpenClaim := { program := "ytndkjpkadfpflaagreat", sum := "823bd0d0d48fe31cacaaead0e5b1811dd6ffdd817a3590b59ae2c5e21edf3403", func := "tumblehome/tumblehometop.TopScaledHull", spec := "topScaledHull", unfollowed := true, recurses := true, plainKeys := false, apart := false }
def TopScaledHullSaid : Prop := topScaledHullRow.holds Tryz.pinned (OpenSpec.ofChange topScaledHullSpec)

/-- ITS FALSE NEIGHBOUR: 'it returns false'. Refute it at one input. -/
def topScaledHullWrong : ChangeSpec := { name := "topScaledHull", fn := fun _ => fun
  | [d1, d2, d3] => { results := [.lit (.bool false)], args := [d1, d2, d3] }
  | _ => none }
def TopScaledHullWrongFalsely : Prop := topScaledHullRow.holds Tryz.pinned (OpenSpec.ofChange topScaledHullWrong)

/- THE SECOND FORM. 'bulk': how many values and letters a reading holds, each counted each time it is reached (what is shared counts as often as it is met; a slice's spare places count too). A statement '..UptoSaid' is the law's where the arguments, and the package variables that the reading takes, are together of bulk at most 1048576: NARROWER than '..Said'. Prove '..Said' where nothing that the law and all that it calls make is longer than what came in: it says more and counts as full. Else prove '..UptoSaid'. A law counts once. -/
mutual
def uptoBulk {H : Type} : DataW H → Nat
  | .lit (.string bytes) => bytes.length + 1
  | .lit _ => 1
  | .nil => 1
  | .ptr d => uptoBulk d + 1
  | .slice elems spare => uptoBulkAll elems + uptoBulkAll spare + 1
  | .agg parts => uptoBulkAll parts + 1
  | .iface _ d => uptoBulk d + 1
  | .map entries => uptoBulkEntries entries + 1
  | .held _ => 1
def uptoBulkAll {H : Type} : List (DataW H) → Nat
  | [] => 0
  | d :: r => uptoBulk d + uptoBulkAll r
def uptoBulkEntries {H : Type} : List (Lit × DataW H) → Nat
  | [] => 0
  | x :: r => uptoBulkEntry x + uptoBulkEntries r
def uptoBulkEntry {H : Type} : Lit × DataW H → Nat
  | (.string bytes, d) => bytes.length + uptoBulk d + 1
  | (_, d) => uptoBulk d + 1
 end
def uptoSmall : (H : Type) → List (DataW H) → Bool := fun _ ds => decide (uptoBulkAll ds ≤ 1048576)
def OpenSpec.upto (s : _root_.Go.ChangeSpec) : _root_.Go.OpenSpec := { _root_.Go.OpenSpec.ofChange s with cond := some uptoSmall }

/-- 'tumblehometop.TopFairHull', WHERE WHAT IT READS IS OF BULK AT MOST 1048576: true; the input reads as it did. -/
def topFairHullUptoRow : OpenClaim := { program := "ytndkjpkadfpflaagreat", sum := "823bd0d0d48fe31cacaaead0e5b1811dd6ffdd817a3590b59ae2c5e21edf3403", func := "tumblehome/tumblehometop.TopFairHull", spec := "topFairHull", unfollowed := true, recurses := true, plainKeys := false, apart := false, narrowed := true }
def TopFairHullUptoSaid : Prop := topFairHullUptoRow.holds Tryz.pinned (OpenSpec.upto topFairHullSpec)

/-- 'tumblehometop.TopSteppedFriction', WHERE WHAT IT READS IS OF BULK AT MOST 1048576: true; the input reads as it did. -/
def topSteppedFrictionUptoRow : OpenClaim := { program := "ytndkjpkadfpflaagreat", sum := "823bd0d0d48fe31cacaaead0e5b1811dd6ffdd817a3590b59ae2c5e21edf3403", func := "tumblehome/tumblehometop.TopSteppedFriction", spec := "topSteppedFriction", unfollowed := true, recurses := true, plainKeys := false, apart := false, narrowed := true }
def TopSteppedFrictionUptoSaid : Prop := topSteppedFrictionUptoRow.holds Tryz.pinned (OpenSpec.upto topSteppedFrictionSpec)

/-- 'tumblehometop.TopFairTests', WHERE WHAT IT READS IS OF BULK AT MOST 1048576: true; the input reads as it did. -/
def topFairTestsUptoRow : OpenClaim := { program := "ytndkjpkadfpflaagreat", sum := "823bd0d0d48fe31cacaaead0e5b1811dd6ffdd817a3590b59ae2c5e21edf3403", func := "tumblehome/tumblehometop.TopFairTests", spec := "topFairTests", unfollowed := true, recurses := true, plainKeys := false, apart := false, narrowed := true }
def TopFairTestsUptoSaid : Prop := topFairTestsUptoRow.holds Tryz.pinned (OpenSpec.upto topFairTestsSpec)

/-- 'tumblehometop.TopScaledHull', WHERE WHAT IT READS IS OF BULK AT MOST 1048576: true; the input reads as it did. -/
def topScaledHullUptoRow : OpenClaim := { program := "ytndkjpkadfpflaagreat", sum := "823bd0d0d48fe31cacaaead0e5b1811dd6ffdd817a3590b59ae2c5e21edf3403", func := "tumblehome/tumblehometop.TopScaledHull", spec := "topScaledHull", unfollowed := true, recurses := true, plainKeys := false, apart := false, narrowed := true }
def TopScaledHullUptoSaid : Prop := topScaledHullUptoRow.holds Tryz.pinned (OpenSpec.upto topScaledHullSpec)

end Rows
end Go.Proofs.YtndkjpkadfpflaaGreat
