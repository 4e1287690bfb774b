/-
  No cell of these rows narrows 'for every input' (looked for: loops, veiled, ifaces, maps, wideKeys, modest, calm, conditions, laid).
  DERIVED. THE GIVEN ROWS OF THIS SEAT. 9 by the template 'for every input the law returns true; each argument reads behind the call as it read before'; 0 by the template 'total and deterministic' (their statements: YtkkndecbijgolaaTotals.lean).
  GIVEN WITH THE SEED: the statements are not yours to turn. If you find one false, say at which input.
  Laid BY PROGRAM, IN A SANDBOX (cutbox-rows.mjs): the forced cells as the released guide's own fill.sh prints them over the translation 99cad31a0cc44512… (all of the seat's roots in one cut). By AI agents, Wed Nov 11 2026. No macro, syntax, notation, axiom, sorry.
-/
import Derived.Test.YtkkndecbijgolaaChecked
import GoSem.Claim
import GoSem.ClaimJoined
import GoSem.ClaimMapViews
import Derived.JoinedTies
import Derived.KernelRfl
namespace Go.Proofs.Ytkkndecbijgolaa
/- THE CELL 'sum', in the pinned program and in every row, IS THE sha256 OF THE DUMP (.gsa) THAT YtkkndecbijgolaaProg.lean LOADS. Nothing in Lean hashes anything: it is a label: what it is worth is what the hold of that sum in a sandbox is worth. -/
noncomputable def Try.pinned : Pinned := { name := "ytkkndecbijgolaa", sum := "99cad31a0cc445128241b82497ab4ccd607e103e9dde8186e1b7650446477bb2", checked := Try.checked }
namespace Rows
def none {H : Type} : Left H := { results := [], args := [] }

/-- 'tumblehomelaw07.SpanRuns': WHATEVER THE INPUT: true; the input reads as it did. -/
def spanRunsSpec : ChangeSpec := { name := "spanRuns", fn := fun _ => fun
  | [d1, d2] => { results := [.lit (.bool true)], args := [d1, d2] }
  | _ => none }
def spanRunsRow : OpenClaim := { program := "ytkkndecbijgolaa", sum := "99cad31a0cc445128241b82497ab4ccd607e103e9dde8186e1b7650446477bb2", func := "tumblehome/tumblehomelaw07.SpanRuns", spec := "spanRuns", unfollowed := true, recurses := true, apart := false }
def SpanRunsSaid : Prop := spanRunsRow.holds Try.pinned (OpenSpec.ofChange spanRunsSpec)

/-- ITS FALSE NEIGHBOUR: 'it returns false'. Refute it at one input. -/
def spanRunsWrong : ChangeSpec := { name := "spanRuns", fn := fun _ => fun
  | [d1, d2] => { results := [.lit (.bool false)], args := [d1, d2] }
  | _ => none }
def SpanRunsWrongFalsely : Prop := spanRunsRow.holds Try.pinned (OpenSpec.ofChange spanRunsWrong)

/-- 'tumblehomelaw07.SpanLeast': WHATEVER THE INPUT: true; the input reads as it did. -/
def spanLeastSpec : ChangeSpec := { name := "spanLeast", fn := fun _ => fun
  | [d1, d2, d3] => { results := [.lit (.bool true)], args := [d1, d2, d3] }
  | _ => none }
def spanLeastRow : OpenClaim := { program := "ytkkndecbijgolaa", sum := "99cad31a0cc445128241b82497ab4ccd607e103e9dde8186e1b7650446477bb2", func := "tumblehome/tumblehomelaw07.SpanLeast", spec := "spanLeast", unfollowed := true, recurses := true, apart := false }
def SpanLeastSaid : Prop := spanLeastRow.holds Try.pinned (OpenSpec.ofChange spanLeastSpec)

/-- ITS FALSE NEIGHBOUR: 'it returns false'. Refute it at one input. -/
def spanLeastWrong : ChangeSpec := { name := "spanLeast", fn := fun _ => fun
  | [d1, d2, d3] => { results := [.lit (.bool false)], args := [d1, d2, d3] }
  | _ => none }
def SpanLeastWrongFalsely : Prop := spanLeastRow.holds Try.pinned (OpenSpec.ofChange spanLeastWrong)

/-- 'tumblehomelaw07.SpanProofs': WHATEVER THE INPUT: true; the input reads as it did. -/
def spanProofsSpec : ChangeSpec := { name := "spanProofs", fn := fun _ => fun
  | [d1, d2, d3, d4] => { results := [.lit (.bool true)], args := [d1, d2, d3, d4] }
  | _ => none }
def spanProofsRow : OpenClaim := { program := "ytkkndecbijgolaa", sum := "99cad31a0cc445128241b82497ab4ccd607e103e9dde8186e1b7650446477bb2", func := "tumblehome/tumblehomelaw07.SpanProofs", spec := "spanProofs", unfollowed := true, recurses := true, apart := false }
def SpanProofsSaid : Prop := spanProofsRow.holds Try.pinned (OpenSpec.ofChange spanProofsSpec)

/-- ITS FALSE NEIGHBOUR: 'it returns false'. Refute it at one input. -/
def spanProofsWrong : ChangeSpec := { name := "spanProofs", fn := fun _ => fun
  | [d1, d2, d3, d4] => { results := [.lit (.bool false)], args := [d1, d2, d3, d4] }
  | _ => none }
def SpanProofsWrongFalsely : Prop := spanProofsRow.holds Try.pinned (OpenSpec.ofChange spanProofsWrong)

/-- 'tumblehomelaw07.SpanHeld': WHATEVER THE INPUT: true; the input reads as it did. -/
def spanHeldSpec : ChangeSpec := { name := "spanHeld", fn := fun _ => fun
  | [d1, d2, d3, d4, d5] => { results := [.lit (.bool true)], args := [d1, d2, d3, d4, d5] }
  | _ => none }
def spanHeldRow : OpenClaim := { program := "ytkkndecbijgolaa", sum := "99cad31a0cc445128241b82497ab4ccd607e103e9dde8186e1b7650446477bb2", func := "tumblehome/tumblehomelaw07.SpanHeld", spec := "spanHeld", unfollowed := true, recurses := true, apart := false }
def SpanHeldSaid : Prop := spanHeldRow.holds Try.pinned (OpenSpec.ofChange spanHeldSpec)

/-- ITS FALSE NEIGHBOUR: 'it returns false'. Refute it at one input. -/
def spanHeldWrong : ChangeSpec := { name := "spanHeld", fn := fun _ => fun
  | [d1, d2, d3, d4, d5] => { results := [.lit (.bool false)], args := [d1, d2, d3, d4, d5] }
  | _ => none }
def SpanHeldWrongFalsely : Prop := spanHeldRow.holds Try.pinned (OpenSpec.ofChange spanHeldWrong)

/-- 'tumblehomelaw07.SpanEither': WHATEVER THE INPUT: true; the input reads as it did. -/
def spanEitherSpec : ChangeSpec := { name := "spanEither", fn := fun _ => fun
  | [d1, d2, d3] => { results := [.lit (.bool true)], args := [d1, d2, d3] }
  | _ => none }
def spanEitherRow : OpenClaim := { program := "ytkkndecbijgolaa", sum := "99cad31a0cc445128241b82497ab4ccd607e103e9dde8186e1b7650446477bb2", func := "tumblehome/tumblehomelaw07.SpanEither", spec := "spanEither", unfollowed := true, recurses := true, apart := false }
def SpanEitherSaid : Prop := spanEitherRow.holds Try.pinned (OpenSpec.ofChange spanEitherSpec)

/-- ITS FALSE NEIGHBOUR: 'it returns false'. Refute it at one input. -/
def spanEitherWrong : ChangeSpec := { name := "spanEither", fn := fun _ => fun
  | [d1, d2, d3] => { results := [.lit (.bool false)], args := [d1, d2, d3] }
  | _ => none }
def SpanEitherWrongFalsely : Prop := spanEitherRow.holds Try.pinned (OpenSpec.ofChange spanEitherWrong)

/-- 'tumblehomelaw07.SpanMore': WHATEVER THE INPUT: true; the input reads as it did. -/
def spanMoreSpec : ChangeSpec := { name := "spanMore", fn := fun _ => fun
  | [d1, d2, d3, d4, d5, d6] => { results := [.lit (.bool true)], args := [d1, d2, d3, d4, d5, d6] }
  | _ => none }
def spanMoreRow : OpenClaim := { program := "ytkkndecbijgolaa", sum := "99cad31a0cc445128241b82497ab4ccd607e103e9dde8186e1b7650446477bb2", func := "tumblehome/tumblehomelaw07.SpanMore", spec := "spanMore", unfollowed := true, recurses := true, apart := false }
def SpanMoreSaid : Prop := spanMoreRow.holds Try.pinned (OpenSpec.ofChange spanMoreSpec)

/-- ITS FALSE NEIGHBOUR: 'it returns false'. Refute it at one input. -/
def spanMoreWrong : ChangeSpec := { name := "spanMore", fn := fun _ => fun
  | [d1, d2, d3, d4, d5, d6] => { results := [.lit (.bool false)], args := [d1, d2, d3, d4, d5, d6] }
  | _ => none }
def SpanMoreWrongFalsely : Prop := spanMoreRow.holds Try.pinned (OpenSpec.ofChange spanMoreWrong)

/-- 'tumblehomelaw07.SpanTogether': WHATEVER THE INPUT: true; the input reads as it did. -/
def spanTogetherSpec : ChangeSpec := { name := "spanTogether", fn := fun _ => fun
  | [d1, d2, d3, d4] => { results := [.lit (.bool true)], args := [d1, d2, d3, d4] }
  | _ => none }
def spanTogetherRow : OpenClaim := { program := "ytkkndecbijgolaa", sum := "99cad31a0cc445128241b82497ab4ccd607e103e9dde8186e1b7650446477bb2", func := "tumblehome/tumblehomelaw07.SpanTogether", spec := "spanTogether", unfollowed := true, recurses := true, apart := false }
def SpanTogetherSaid : Prop := spanTogetherRow.holds Try.pinned (OpenSpec.ofChange spanTogetherSpec)

/-- ITS FALSE NEIGHBOUR: 'it returns false'. Refute it at one input. -/
def spanTogetherWrong : ChangeSpec := { name := "spanTogether", fn := fun _ => fun
  | [d1, d2, d3, d4] => { results := [.lit (.bool false)], args := [d1, d2, d3, d4] }
  | _ => none }
def SpanTogetherWrongFalsely : Prop := spanTogetherRow.holds Try.pinned (OpenSpec.ofChange spanTogetherWrong)

/-- 'tumblehomelaw07.SpanFew': WHATEVER THE INPUT: true; the input reads as it did. -/
def spanFewSpec : ChangeSpec := { name := "spanFew", fn := fun _ => fun
  | [d] => { results := [.lit (.bool true)], args := [d] }
  | _ => none }
def spanFewRow : OpenClaim := { program := "ytkkndecbijgolaa", sum := "99cad31a0cc445128241b82497ab4ccd607e103e9dde8186e1b7650446477bb2", func := "tumblehome/tumblehomelaw07.SpanFew", spec := "spanFew", unfollowed := true, recurses := true, apart := false }
def SpanFewSaid : Prop := spanFewRow.holds Try.pinned (OpenSpec.ofChange spanFewSpec)

/-- ITS FALSE NEIGHBOUR: 'it returns false'. Refute it at one input. -/
def spanFewWrong : ChangeSpec := { name := "spanFew", fn := fun _ => fun
  | [d] => { results := [.lit (.bool false)], args := [d] }
  | _ => none }
def SpanFewWrongFalsely : Prop := spanFewRow.holds Try.pinned (OpenSpec.ofChange spanFewWrong)

/-- 'tumblehomelaw07.SpanKnown': WHATEVER THE INPUT: true; the input reads as it did. -/
def spanKnownSpec : ChangeSpec := { name := "spanKnown", fn := fun _ => fun
  | [] => { results := [.lit (.bool true)], args := [] }
  | _ => none }
def spanKnownRow : OpenClaim := { program := "ytkkndecbijgolaa", sum := "99cad31a0cc445128241b82497ab4ccd607e103e9dde8186e1b7650446477bb2", func := "tumblehome/tumblehomelaw07.SpanKnown", spec := "spanKnown", unfollowed := true, recurses := true, apart := false }
def SpanKnownSaid : Prop := spanKnownRow.holds Try.pinned (OpenSpec.ofChange spanKnownSpec)

/-- ITS FALSE NEIGHBOUR: 'it returns false'. Refute it at one input. -/
def spanKnownWrong : ChangeSpec := { name := "spanKnown", fn := fun _ => fun
  | [] => { results := [.lit (.bool false)], args := [] }
  | _ => none }
def SpanKnownWrongFalsely : Prop := spanKnownRow.holds Try.pinned (OpenSpec.ofChange spanKnownWrong)

/- THE SECOND FORM. 'bulk': how many values and letters a reading holds, each counted each time it is reached (what is shared counts as often as it is met; a slice's spare places count too). A statement '..UptoSaid' is the law's where the arguments, and the package variables that the reading takes, are together of bulk at most 1048576: NARROWER than '..Said'. Prove '..Said' where nothing that the law and all that it calls make is longer than what came in: it says more and counts as full. Else prove '..UptoSaid'. A law counts once. -/
mutual
def uptoBulk {H : Type} : DataW H → Nat
  | .lit (.string bytes) => bytes.length + 1
  | .lit _ => 1
  | .nil => 1
  | .ptr d => uptoBulk d + 1
  | .slice elems spare => uptoBulkAll elems + uptoBulkAll spare + 1
  | .agg parts => uptoBulkAll parts + 1
  | .iface _ d => uptoBulk d + 1
  | .map entries => uptoBulkEntries entries + 1
  | .held _ => 1
def uptoBulkAll {H : Type} : List (DataW H) → Nat
  | [] => 0
  | d :: r => uptoBulk d + uptoBulkAll r
def uptoBulkEntries {H : Type} : List (Lit × DataW H) → Nat
  | [] => 0
  | x :: r => uptoBulkEntry x + uptoBulkEntries r
def uptoBulkEntry {H : Type} : Lit × DataW H → Nat
  | (.string bytes, d) => bytes.length + uptoBulk d + 1
  | (_, d) => uptoBulk d + 1
 end
def uptoSmall : (H : Type) → List (DataW H) → Bool := fun _ ds => decide (uptoBulkAll ds ≤ 1048576)
def OpenSpec.upto (s : _root_.Go.ChangeSpec) : _root_.Go.OpenSpec := { _root_.Go.OpenSpec.ofChange s with cond := some uptoSmall }

/-- 'tumblehomelaw07.SpanRuns', WHERE WHAT IT READS IS OF BULK AT MOST 1048576: true; the input reads as it did. -/
def spanRunsUptoRow : OpenClaim := { program := "ytkkndecbijgolaa", sum := "99cad31a0cc445128241b82497ab4ccd607e103e9dde8186e1b7650446477bb2", func := "tumblehome/tumblehomelaw07.SpanRuns", spec := "spanRuns", unfollowed := true, recurses := true, apart := false, narrowed := true }
def SpanRunsUptoSaid : Prop := spanRunsUptoRow.holds Try.pinned (OpenSpec.upto spanRunsSpec)

/-- 'tumblehomelaw07.SpanLeast', WHERE WHAT IT READS IS OF BULK AT MOST 1048576: true; the input reads as it did. -/
def spanLeastUptoRow : OpenClaim := { program := "ytkkndecbijgolaa", sum := "99cad31a0cc445128241b82497ab4ccd607e103e9dde8186e1b7650446477bb2", func := "tumblehome/tumblehomelaw07.SpanLeast", spec := "spanLeast", unfollowed := true, recurses := true, apart := false, narrowed := true }
def SpanLeastUptoSaid : Prop := spanLeastUptoRow.holds Try.pinned (OpenSpec.upto spanLeastSpec)

/-- 'tumblehomelaw07.SpanProofs', WHERE WHAT IT READS IS OF BULK AT MOST 1048576: true; the input reads as it did. -/
def spanProofsUptoRow : OpenClaim := { program := "ytkkndecbijgolaa", sum := "99cad31a0cc445128241b82497ab4ccd607e103e9dde8186e1b7650446477bb2", func := "tumblehome/tumblehomelaw07.SpanProofs", spec := "spanProofs", unfollowed := true, recurses := true, apart := false, narrowed := true }
def SpanProofsUptoSaid : Prop := spanProofsUptoRow.holds Try.pinned (OpenSpec.upto spanProofsSpec)

/-- 'tumblehomelaw07.SpanHeld', WHERE WHAT IT READS IS OF BULK AT MOST 1048576: true; the input reads as it did. -/
def spanHeldUptoRow : OpenClaim := { program := "ytkkndecbijgolaa", sum := "99cad31a0cc445128241b82497ab4ccd607e103e9dde8186e1b7650446477bb2", func := "tumblehome/tumblehomelaw07.SpanHeld", spec := "spanHeld", unfollowed := true, recurses := true, apart := false, narrowed := true }
def SpanHeldUptoSaid : Prop := spanHeldUptoRow.holds Try.pinned (OpenSpec.upto spanHeldSpec)

/-- 'tumblehomelaw07.SpanEither', WHERE WHAT IT READS IS OF BULK AT MOST 1048576: true; the input reads as it did. -/
def spanEitherUptoRow : OpenClaim := { program := "ytkkndecbijgolaa", sum := "99cad31a0cc445128241b82497ab4ccd607e103e9dde8186e1b7650446477bb2", func := "tumblehome/tumblehomelaw07.SpanEither", spec := "spanEither", unfollowed := true, recurses := true, apart := false, narrowed := true }
def SpanEitherUptoSaid : Prop := spanEitherUptoRow.holds Try.pinned (OpenSpec.upto spanEitherSpec)

/-- 'tumblehomelaw07.SpanMore', WHERE WHAT IT READS IS OF BULK AT MOST 1048576: true; the input reads as it did. -/
def spanMoreUptoRow : OpenClaim := { program := "ytkkndecbijgolaa", sum := "99cad31a0cc445128241b82497ab4ccd607e103e9dde8186e1b7650446477bb2", func := "tumblehome/tumblehomelaw07.SpanMore", spec := "spanMore", unfollowed := true, recurses := true, apart := false, narrowed := true }
def SpanMoreUptoSaid : Prop := spanMoreUptoRow.holds Try.pinned (OpenSpec.upto spanMoreSpec)

/-- 'tumblehomelaw07.SpanTogether', WHERE WHAT IT READS IS OF BULK AT MOST 1048576: true; the input reads as it did. -/
def spanTogetherUptoRow : OpenClaim := { program := "ytkkndecbijgolaa", sum := "99cad31a0cc445128241b82497ab4ccd607e103e9dde8186e1b7650446477bb2", func := "tumblehome/tumblehomelaw07.SpanTogether", spec := "spanTogether", unfollowed := true, recurses := true, apart := false, narrowed := true }
def SpanTogetherUptoSaid : Prop := spanTogetherUptoRow.holds Try.pinned (OpenSpec.upto spanTogetherSpec)

/-- 'tumblehomelaw07.SpanFew', WHERE WHAT IT READS IS OF BULK AT MOST 1048576: true; the input reads as it did. -/
def spanFewUptoRow : OpenClaim := { program := "ytkkndecbijgolaa", sum := "99cad31a0cc445128241b82497ab4ccd607e103e9dde8186e1b7650446477bb2", func := "tumblehome/tumblehomelaw07.SpanFew", spec := "spanFew", unfollowed := true, recurses := true, apart := false, narrowed := true }
def SpanFewUptoSaid : Prop := spanFewUptoRow.holds Try.pinned (OpenSpec.upto spanFewSpec)

/-- 'tumblehomelaw07.SpanKnown', WHERE WHAT IT READS IS OF BULK AT MOST 1048576: true; the input reads as it did. -/
def spanKnownUptoRow : OpenClaim := { program := "ytkkndecbijgolaa", sum := "99cad31a0cc445128241b82497ab4ccd607e103e9dde8186e1b7650446477bb2", func := "tumblehome/tumblehomelaw07.SpanKnown", spec := "spanKnown", unfollowed := true, recurses := true, apart := false, narrowed := true }
def SpanKnownUptoSaid : Prop := spanKnownUptoRow.holds Try.pinned (OpenSpec.upto spanKnownSpec)

end Rows
end Go.Proofs.Ytkkndecbijgolaa
