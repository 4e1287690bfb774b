/-
  No cell of these rows narrows 'for every input' (looked for: loops, veiled, ifaces, maps, wideKeys, modest, calm, conditions, laid).
  DERIVED. THE GIVEN ROWS OF THIS SEAT. 6 by the template 'for every input the law returns true; each argument reads behind the call as it read before'; 0 by the template 'total and deterministic' (their statements: YtfdlkdjihmlbhaaTotals.lean).
  GIVEN WITH THE SEED: the statements are not yours to turn. If you find one false, say at which input.
  Laid BY PROGRAM, IN A SANDBOX (cutbox-rows.mjs): the forced cells as the released guide's own fill.sh prints them over the translation 6ed3318a9b150aa0… (all of the seat's roots in one cut). By AI agents, Wed Nov 11 2026. No macro, syntax, notation, axiom, sorry.
-/
import Derived.Test.YtfdlkdjihmlbhaaChecked
import GoSem.Claim
import GoSem.ClaimJoined
import GoSem.ClaimMapViews
import Derived.JoinedTies
import Derived.KernelRfl
namespace Go.Proofs.Ytfdlkdjihmlbhaa
/- THE CELL 'sum', in the pinned program and in every row, IS THE sha256 OF THE DUMP (.gsa) THAT YtfdlkdjihmlbhaaProg.lean LOADS. Nothing in Lean hashes anything: it is a label: what it is worth is what the hold of that sum in a sandbox is worth. -/
noncomputable def Try.pinned : Pinned := { name := "ytfdlkdjihmlbhaa", sum := "6ed3318a9b150aa0c2bd8d674fa5e18107ebc232321eef729b693d1bcdbd6a13", checked := Try.checked }
namespace Rows
def none {H : Type} : Left H := { results := [], args := [] }

/-- 'tumblehomelaw09.AgreeHeld': WHATEVER THE INPUT: true; the input reads as it did. -/
def agreeHeldSpec : ChangeSpec := { name := "agreeHeld", fn := fun _ => fun
  | [d1, d2, d3] => { results := [.lit (.bool true)], args := [d1, d2, d3] }
  | _ => none }
def agreeHeldRow : OpenClaim := { program := "ytfdlkdjihmlbhaa", sum := "6ed3318a9b150aa0c2bd8d674fa5e18107ebc232321eef729b693d1bcdbd6a13", func := "tumblehome/tumblehomelaw09.AgreeHeld", spec := "agreeHeld", inPlace := ["maps.clone"], unfollowed := true, recurses := true, apart := false }
def AgreeHeldSaid : Prop := agreeHeldRow.holds Try.pinned (OpenSpec.ofChange agreeHeldSpec)

/-- ITS FALSE NEIGHBOUR: 'it returns false'. Refute it at one input. -/
def agreeHeldWrong : ChangeSpec := { name := "agreeHeld", fn := fun _ => fun
  | [d1, d2, d3] => { results := [.lit (.bool false)], args := [d1, d2, d3] }
  | _ => none }
def AgreeHeldWrongFalsely : Prop := agreeHeldRow.holds Try.pinned (OpenSpec.ofChange agreeHeldWrong)

/-- 'tumblehomelaw09.AgreeMore': WHATEVER THE INPUT: true; the input reads as it did. -/
def agreeMoreSpec : ChangeSpec := { name := "agreeMore", fn := fun _ => fun
  | [d1, d2, d3, d4, d5] => { results := [.lit (.bool true)], args := [d1, d2, d3, d4, d5] }
  | _ => none }
def agreeMoreRow : OpenClaim := { program := "ytfdlkdjihmlbhaa", sum := "6ed3318a9b150aa0c2bd8d674fa5e18107ebc232321eef729b693d1bcdbd6a13", func := "tumblehome/tumblehomelaw09.AgreeMore", spec := "agreeMore", inPlace := ["maps.clone"], unfollowed := true, recurses := true, apart := false }
def AgreeMoreSaid : Prop := agreeMoreRow.holds Try.pinned (OpenSpec.ofChange agreeMoreSpec)

/-- ITS FALSE NEIGHBOUR: 'it returns false'. Refute it at one input. -/
def agreeMoreWrong : ChangeSpec := { name := "agreeMore", fn := fun _ => fun
  | [d1, d2, d3, d4, d5] => { results := [.lit (.bool false)], args := [d1, d2, d3, d4, d5] }
  | _ => none }
def AgreeMoreWrongFalsely : Prop := agreeMoreRow.holds Try.pinned (OpenSpec.ofChange agreeMoreWrong)

/-- 'tumblehomelaw09.AgreeMoved': WHATEVER THE INPUT: true; the input reads as it did. -/
def agreeMovedSpec : ChangeSpec := { name := "agreeMoved", fn := fun _ => fun
  | [d1, d2, d3, d4] => { results := [.lit (.bool true)], args := [d1, d2, d3, d4] }
  | _ => none }
def agreeMovedRow : OpenClaim := { program := "ytfdlkdjihmlbhaa", sum := "6ed3318a9b150aa0c2bd8d674fa5e18107ebc232321eef729b693d1bcdbd6a13", func := "tumblehome/tumblehomelaw09.AgreeMoved", spec := "agreeMoved", inPlace := ["maps.clone"], unfollowed := true, recurses := true, apart := false }
def AgreeMovedSaid : Prop := agreeMovedRow.holds Try.pinned (OpenSpec.ofChange agreeMovedSpec)

/-- ITS FALSE NEIGHBOUR: 'it returns false'. Refute it at one input. -/
def agreeMovedWrong : ChangeSpec := { name := "agreeMoved", fn := fun _ => fun
  | [d1, d2, d3, d4] => { results := [.lit (.bool false)], args := [d1, d2, d3, d4] }
  | _ => none }
def AgreeMovedWrongFalsely : Prop := agreeMovedRow.holds Try.pinned (OpenSpec.ofChange agreeMovedWrong)

/-- 'tumblehomelaw09.AgreeChain': WHATEVER THE INPUT: true; the input reads as it did. -/
def agreeChainSpec : ChangeSpec := { name := "agreeChain", fn := fun _ => fun
  | [d1, d2] => { results := [.lit (.bool true)], args := [d1, d2] }
  | _ => none }
def agreeChainRow : OpenClaim := { program := "ytfdlkdjihmlbhaa", sum := "6ed3318a9b150aa0c2bd8d674fa5e18107ebc232321eef729b693d1bcdbd6a13", func := "tumblehome/tumblehomelaw09.AgreeChain", spec := "agreeChain", inPlace := ["maps.clone"], unfollowed := true, recurses := true, apart := false }
def AgreeChainSaid : Prop := agreeChainRow.holds Try.pinned (OpenSpec.ofChange agreeChainSpec)

/-- ITS FALSE NEIGHBOUR: 'it returns false'. Refute it at one input. -/
def agreeChainWrong : ChangeSpec := { name := "agreeChain", fn := fun _ => fun
  | [d1, d2] => { results := [.lit (.bool false)], args := [d1, d2] }
  | _ => none }
def AgreeChainWrongFalsely : Prop := agreeChainRow.holds Try.pinned (OpenSpec.ofChange agreeChainWrong)

/-- 'tumblehomelaw09.AgreeOdd': WHATEVER THE INPUT: true; the input reads as it did. -/
def agreeOddSpec : ChangeSpec := { name := "agreeOdd", fn := fun _ => fun
  | [d1, d2, d3] => { results := [.lit (.bool true)], args := [d1, d2, d3] }
  | _ => none }
def agreeOddRow : OpenClaim := { program := "ytfdlkdjihmlbhaa", sum := "6ed3318a9b150aa0c2bd8d674fa5e18107ebc232321eef729b693d1bcdbd6a13", func := "tumblehome/tumblehomelaw09.AgreeOdd", spec := "agreeOdd", inPlace := ["maps.clone"], unfollowed := true, recurses := true, apart := false }
def AgreeOddSaid : Prop := agreeOddRow.holds Try.pinned (OpenSpec.ofChange agreeOddSpec)

/-- ITS FALSE NEIGHBOUR: 'it returns false'. Refute it at one input. -/
def agreeOddWrong : ChangeSpec := { name := "agreeOdd", fn := fun _ => fun
  | [d1, d2, d3] => { results := [.lit (.bool false)], args := [d1, d2, d3] }
  | _ => none }
def AgreeOddWrongFalsely : Prop := agreeOddRow.holds Try.pinned (OpenSpec.ofChange agreeOddWrong)

/-- 'tumblehomelaw09.AgreeKnown': WHATEVER THE INPUT: true; the input reads as it did. -/
def agreeKnownSpec : ChangeSpec := { name := "agreeKnown", fn := fun _ => fun
  | [] => { results := [.lit (.bool true)], args := [] }
  | _ => none }
def agreeKnownRow : OpenClaim := { program := "ytfdlkdjihmlbhaa", sum := "6ed3318a9b150aa0c2bd8d674fa5e18107ebc232321eef729b693d1bcdbd6a13", func := "tumblehome/tumblehomelaw09.AgreeKnown", spec := "agreeKnown", inPlace := ["maps.clone"], unfollowed := true, recurses := true, apart := false }
def AgreeKnownSaid : Prop := agreeKnownRow.holds Try.pinned (OpenSpec.ofChange agreeKnownSpec)

/-- ITS FALSE NEIGHBOUR: 'it returns false'. Refute it at one input. -/
def agreeKnownWrong : ChangeSpec := { name := "agreeKnown", fn := fun _ => fun
  | [] => { results := [.lit (.bool false)], args := [] }
  | _ => none }
def AgreeKnownWrongFalsely : Prop := agreeKnownRow.holds Try.pinned (OpenSpec.ofChange agreeKnownWrong)

/- THE SECOND FORM. 'bulk': how many values and letters a reading holds, each counted each time it is reached (what is shared counts as often as it is met; a slice's spare places count too). A statement '..UptoSaid' is the law's where the arguments, and the package variables that the reading takes, are together of bulk at most 1048576: NARROWER than '..Said'. Prove '..Said' where nothing that the law and all that it calls make is longer than what came in: it says more and counts as full. Else prove '..UptoSaid'. A law counts once. -/
mutual
def uptoBulk {H : Type} : DataW H → Nat
  | .lit (.string bytes) => bytes.length + 1
  | .lit _ => 1
  | .nil => 1
  | .ptr d => uptoBulk d + 1
  | .slice elems spare => uptoBulkAll elems + uptoBulkAll spare + 1
  | .agg parts => uptoBulkAll parts + 1
  | .iface _ d => uptoBulk d + 1
  | .map entries => uptoBulkEntries entries + 1
  | .held _ => 1
def uptoBulkAll {H : Type} : List (DataW H) → Nat
  | [] => 0
  | d :: r => uptoBulk d + uptoBulkAll r
def uptoBulkEntries {H : Type} : List (Lit × DataW H) → Nat
  | [] => 0
  | x :: r => uptoBulkEntry x + uptoBulkEntries r
def uptoBulkEntry {H : Type} : Lit × DataW H → Nat
  | (.string bytes, d) => bytes.length + uptoBulk d + 1
  | (_, d) => uptoBulk d + 1
 end
def uptoSmall : (H : Type) → List (DataW H) → Bool := fun _ ds => decide (uptoBulkAll ds ≤ 1048576)
def OpenSpec.upto (s : _root_.Go.ChangeSpec) : _root_.Go.OpenSpec := { _root_.Go.OpenSpec.ofChange s with cond := some uptoSmall }

/-- 'tumblehomelaw09.AgreeHeld', WHERE WHAT IT READS IS OF BULK AT MOST 1048576: true; the input reads as it did. -/
def agreeHeldUptoRow : OpenClaim := { program := "ytfdlkdjihmlbhaa", sum := "6ed3318a9b150aa0c2bd8d674fa5e18107ebc232321eef729b693d1bcdbd6a13", func := "tumblehome/tumblehomelaw09.AgreeHeld", spec := "agreeHeld", inPlace := ["maps.clone"], unfollowed := true, recurses := true, apart := false, narrowed := true }
def AgreeHeldUptoSaid : Prop := agreeHeldUptoRow.holds Try.pinned (OpenSpec.upto agreeHeldSpec)

/-- 'tumblehomelaw09.AgreeMore', WHERE WHAT IT READS IS OF BULK AT MOST 1048576: true; the input reads as it did. -/
def agreeMoreUptoRow : OpenClaim := { program := "ytfdlkdjihmlbhaa", sum := "6ed3318a9b150aa0c2bd8d674fa5e18107ebc232321eef729b693d1bcdbd6a13", func := "tumblehome/tumblehomelaw09.AgreeMore", spec := "agreeMore", inPlace := ["maps.clone"], unfollowed := true, recurses := true, apart := false, narrowed := true }
def AgreeMoreUptoSaid : Prop := agreeMoreUptoRow.holds Try.pinned (OpenSpec.upto agreeMoreSpec)

/-- 'tumblehomelaw09.AgreeMoved', WHERE WHAT IT READS IS OF BULK AT MOST 1048576: true; the input reads as it did. -/
def agreeMovedUptoRow : OpenClaim := { program := "ytfdlkdjihmlbhaa", sum := "6ed3318a9b150aa0c2bd8d674fa5e18107ebc232321eef729b693d1bcdbd6a13", func := "tumblehome/tumblehomelaw09.AgreeMoved", spec := "agreeMoved", inPlace := ["maps.clone"], unfollowed := true, recurses := true, apart := false, narrowed := true }
def AgreeMovedUptoSaid : Prop := agreeMovedUptoRow.holds Try.pinned (OpenSpec.upto agreeMovedSpec)

/-- 'tumblehomelaw09.AgreeChain', WHERE WHAT IT READS IS OF BULK AT MOST 1048576: true; the input reads as it did. -/
def agreeChainUptoRow : OpenClaim := { program := "ytfdlkdjihmlbhaa", sum := "6ed3318a9b150aa0c2bd8d674fa5e18107ebc232321eef729b693d1bcdbd6a13", func := "tumblehome/tumblehomelaw09.AgreeChain", spec := "agreeChain", inPlace := ["maps.clone"], unfollowed := true, recurses := true, apart := false, narrowed := true }
def AgreeChainUptoSaid : Prop := agreeChainUptoRow.holds Try.pinned (OpenSpec.upto agreeChainSpec)

/-- 'tumblehomelaw09.AgreeOdd', WHERE WHAT IT READS IS OF BULK AT MOST 1048576: true; the input reads as it did. -/
def agreeOddUptoRow : OpenClaim := { program := "ytfdlkdjihmlbhaa", sum := "6ed3318a9b150aa0c2bd8d674fa5e18107ebc232321eef729b693d1bcdbd6a13", func := "tumblehome/tumblehomelaw09.AgreeOdd", spec := "agreeOdd", inPlace := ["maps.clone"], unfollowed := true, recurses := true, apart := false, narrowed := true }
def AgreeOddUptoSaid : Prop := agreeOddUptoRow.holds Try.pinned (OpenSpec.upto agreeOddSpec)

/-- 'tumblehomelaw09.AgreeKnown', WHERE WHAT IT READS IS OF BULK AT MOST 1048576: true; the input reads as it did. -/
def agreeKnownUptoRow : OpenClaim := { program := "ytfdlkdjihmlbhaa", sum := "6ed3318a9b150aa0c2bd8d674fa5e18107ebc232321eef729b693d1bcdbd6a13", func := "tumblehome/tumblehomelaw09.AgreeKnown", spec := "agreeKnown", inPlace := ["maps.clone"], unfollowed := true, recurses := true, apart := false, narrowed := true }
def AgreeKnownUptoSaid : Prop := agreeKnownUptoRow.holds Try.pinned (OpenSpec.upto agreeKnownSpec)

end Rows
end Go.Proofs.Ytfdlkdjihmlbhaa
