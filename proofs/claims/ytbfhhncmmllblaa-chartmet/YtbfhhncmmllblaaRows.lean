/-
  No cell of these rows narrows 'for every input' (looked for: loops, veiled, ifaces, maps, wideKeys, modest, calm, conditions, laid).
  DERIVED. THE GIVEN ROWS OF THIS SEAT. 10 by the template 'for every input the law returns true; each argument reads behind the call as it read before'; 0 by the template 'total and deterministic' (their statements: YtbfhhncmmllblaaTotals.lean).
  GIVEN WITH THE SEED: the statements are not yours to turn. If you find one false, say at which input.
  Laid BY PROGRAM, IN A SANDBOX (cutbox-rows.mjs): the forced cells as the released guide's own fill.sh prints them over the translation 5658e759cd267e11… (all of the seat's roots in one cut). By AI agents, Wed Nov 11 2026. No macro, syntax, notation, axiom, sorry.
-/
import Derived.Test.YtbfhhncmmllblaaChecked
import GoSem.Claim
import GoSem.ClaimJoined
import GoSem.ClaimMapViews
import Derived.JoinedTies
import Derived.KernelRfl
namespace Go.Proofs.Ytbfhhncmmllblaa
/- THE CELL 'sum', in the pinned program and in every row, IS THE sha256 OF THE DUMP (.gsa) THAT YtbfhhncmmllblaaProg.lean LOADS. Nothing in Lean hashes anything: it is a label: what it is worth is what the hold of that sum in a sandbox is worth. -/
noncomputable def Try.pinned : Pinned := { name := "ytbfhhncmmllblaa", sum := "5658e759cd267e119f5a9103decdb35836a02b6cd466e13edc6eddba41bef749", checked := Try.checked }
namespace Rows
def none {H : Type} : Left H := { results := [], args := [] }

/-- 'tumblehomelaw08.ChartValues': WHATEVER THE INPUT: true; the input reads as it did. -/
def chartValuesSpec : ChangeSpec := { name := "chartValues", fn := fun _ => fun
  | [d1, d2, d3] => { results := [.lit (.bool true)], args := [d1, d2, d3] }
  | _ => none }
def chartValuesRow : OpenClaim := { program := "ytbfhhncmmllblaa", sum := "5658e759cd267e119f5a9103decdb35836a02b6cd466e13edc6eddba41bef749", func := "tumblehome/tumblehomelaw08.ChartValues", spec := "chartValues", unfollowed := true, recurses := true, plainKeys := false, apart := false }
def ChartValuesSaid : Prop := chartValuesRow.holds Try.pinned (OpenSpec.ofChange chartValuesSpec)

/-- ITS FALSE NEIGHBOUR: 'it returns false'. Refute it at one input. -/
def chartValuesWrong : ChangeSpec := { name := "chartValues", fn := fun _ => fun
  | [d1, d2, d3] => { results := [.lit (.bool false)], args := [d1, d2, d3] }
  | _ => none }
def ChartValuesWrongFalsely : Prop := chartValuesRow.holds Try.pinned (OpenSpec.ofChange chartValuesWrong)

/-- 'tumblehomelaw08.ChartMeets': WHATEVER THE INPUT: true; the input reads as it did. -/
def chartMeetsSpec : ChangeSpec := { name := "chartMeets", fn := fun _ => fun
  | [d1, d2, d3, d4] => { results := [.lit (.bool true)], args := [d1, d2, d3, d4] }
  | _ => none }
def chartMeetsRow : OpenClaim := { program := "ytbfhhncmmllblaa", sum := "5658e759cd267e119f5a9103decdb35836a02b6cd466e13edc6eddba41bef749", func := "tumblehome/tumblehomelaw08.ChartMeets", spec := "chartMeets", unfollowed := true, recurses := true, plainKeys := false, apart := false }
def ChartMeetsSaid : Prop := chartMeetsRow.holds Try.pinned (OpenSpec.ofChange chartMeetsSpec)

/-- ITS FALSE NEIGHBOUR: 'it returns false'. Refute it at one input. -/
def chartMeetsWrong : ChangeSpec := { name := "chartMeets", fn := fun _ => fun
  | [d1, d2, d3, d4] => { results := [.lit (.bool false)], args := [d1, d2, d3, d4] }
  | _ => none }
def ChartMeetsWrongFalsely : Prop := chartMeetsRow.holds Try.pinned (OpenSpec.ofChange chartMeetsWrong)

/-- 'tumblehomelaw08.ChartSures': WHATEVER THE INPUT: true; the input reads as it did. -/
def chartSuresSpec : ChangeSpec := { name := "chartSures", fn := fun _ => fun
  | [d1, d2] => { results := [.lit (.bool true)], args := [d1, d2] }
  | _ => none }
def chartSuresRow : OpenClaim := { program := "ytbfhhncmmllblaa", sum := "5658e759cd267e119f5a9103decdb35836a02b6cd466e13edc6eddba41bef749", func := "tumblehome/tumblehomelaw08.ChartSures", spec := "chartSures", unfollowed := true, recurses := true, plainKeys := false, apart := false }
def ChartSuresSaid : Prop := chartSuresRow.holds Try.pinned (OpenSpec.ofChange chartSuresSpec)

/-- ITS FALSE NEIGHBOUR: 'it returns false'. Refute it at one input. -/
def chartSuresWrong : ChangeSpec := { name := "chartSures", fn := fun _ => fun
  | [d1, d2] => { results := [.lit (.bool false)], args := [d1, d2] }
  | _ => none }
def ChartSuresWrongFalsely : Prop := chartSuresRow.holds Try.pinned (OpenSpec.ofChange chartSuresWrong)

/-- 'tumblehomelaw08.ChartWithin': WHATEVER THE INPUT: true; the input reads as it did. -/
def chartWithinSpec : ChangeSpec := { name := "chartWithin", fn := fun _ => fun
  | [d1, d2, d3] => { results := [.lit (.bool true)], args := [d1, d2, d3] }
  | _ => none }
def chartWithinRow : OpenClaim := { program := "ytbfhhncmmllblaa", sum := "5658e759cd267e119f5a9103decdb35836a02b6cd466e13edc6eddba41bef749", func := "tumblehome/tumblehomelaw08.ChartWithin", spec := "chartWithin", unfollowed := true, recurses := true, plainKeys := false, apart := false }
def ChartWithinSaid : Prop := chartWithinRow.holds Try.pinned (OpenSpec.ofChange chartWithinSpec)

/-- ITS FALSE NEIGHBOUR: 'it returns false'. Refute it at one input. -/
def chartWithinWrong : ChangeSpec := { name := "chartWithin", fn := fun _ => fun
  | [d1, d2, d3] => { results := [.lit (.bool false)], args := [d1, d2, d3] }
  | _ => none }
def ChartWithinWrongFalsely : Prop := chartWithinRow.holds Try.pinned (OpenSpec.ofChange chartWithinWrong)

/-- 'tumblehomelaw08.ChartMet': WHATEVER THE INPUT: true; the input reads as it did. -/
def chartMetSpec : ChangeSpec := { name := "chartMet", fn := fun _ => fun
  | [d1, d2, d3, d4, d5, d6] => { results := [.lit (.bool true)], args := [d1, d2, d3, d4, d5, d6] }
  | _ => none }
def chartMetRow : OpenClaim := { program := "ytbfhhncmmllblaa", sum := "5658e759cd267e119f5a9103decdb35836a02b6cd466e13edc6eddba41bef749", func := "tumblehome/tumblehomelaw08.ChartMet", spec := "chartMet", unfollowed := true, recurses := true, plainKeys := false, apart := false }
def ChartMetSaid : Prop := chartMetRow.holds Try.pinned (OpenSpec.ofChange chartMetSpec)

/-- ITS FALSE NEIGHBOUR: 'it returns false'. Refute it at one input. -/
def chartMetWrong : ChangeSpec := { name := "chartMet", fn := fun _ => fun
  | [d1, d2, d3, d4, d5, d6] => { results := [.lit (.bool false)], args := [d1, d2, d3, d4, d5, d6] }
  | _ => none }
def ChartMetWrongFalsely : Prop := chartMetRow.holds Try.pinned (OpenSpec.ofChange chartMetWrong)

/-- 'tumblehomelaw08.ChartBest': WHATEVER THE INPUT: true; the input reads as it did. -/
def chartBestSpec : ChangeSpec := { name := "chartBest", fn := fun _ => fun
  | [d1, d2, d3] => { results := [.lit (.bool true)], args := [d1, d2, d3] }
  | _ => none }
def chartBestRow : OpenClaim := { program := "ytbfhhncmmllblaa", sum := "5658e759cd267e119f5a9103decdb35836a02b6cd466e13edc6eddba41bef749", func := "tumblehome/tumblehomelaw08.ChartBest", spec := "chartBest", unfollowed := true, recurses := true, plainKeys := false, apart := false }
def ChartBestSaid : Prop := chartBestRow.holds Try.pinned (OpenSpec.ofChange chartBestSpec)

/-- ITS FALSE NEIGHBOUR: 'it returns false'. Refute it at one input. -/
def chartBestWrong : ChangeSpec := { name := "chartBest", fn := fun _ => fun
  | [d1, d2, d3] => { results := [.lit (.bool false)], args := [d1, d2, d3] }
  | _ => none }
def ChartBestWrongFalsely : Prop := chartBestRow.holds Try.pinned (OpenSpec.ofChange chartBestWrong)

/-- 'tumblehomelaw08.ChartFiner': WHATEVER THE INPUT: true; the input reads as it did. -/
def chartFinerSpec : ChangeSpec := { name := "chartFiner", fn := fun _ => fun
  | [d1, d2, d3, d4] => { results := [.lit (.bool true)], args := [d1, d2, d3, d4] }
  | _ => none }
def chartFinerRow : OpenClaim := { program := "ytbfhhncmmllblaa", sum := "5658e759cd267e119f5a9103decdb35836a02b6cd466e13edc6eddba41bef749", func := "tumblehome/tumblehomelaw08.ChartFiner", spec := "chartFiner", unfollowed := true, recurses := true, plainKeys := false, apart := false }
def ChartFinerSaid : Prop := chartFinerRow.holds Try.pinned (OpenSpec.ofChange chartFinerSpec)

/-- ITS FALSE NEIGHBOUR: 'it returns false'. Refute it at one input. -/
def chartFinerWrong : ChangeSpec := { name := "chartFiner", fn := fun _ => fun
  | [d1, d2, d3, d4] => { results := [.lit (.bool false)], args := [d1, d2, d3, d4] }
  | _ => none }
def ChartFinerWrongFalsely : Prop := chartFinerRow.holds Try.pinned (OpenSpec.ofChange chartFinerWrong)

/-- 'tumblehomelaw08.ChartMores': WHATEVER THE INPUT: true; the input reads as it did. -/
def chartMoresSpec : ChangeSpec := { name := "chartMores", fn := fun _ => fun
  | [d1, d2, d3, d4] => { results := [.lit (.bool true)], args := [d1, d2, d3, d4] }
  | _ => none }
def chartMoresRow : OpenClaim := { program := "ytbfhhncmmllblaa", sum := "5658e759cd267e119f5a9103decdb35836a02b6cd466e13edc6eddba41bef749", func := "tumblehome/tumblehomelaw08.ChartMores", spec := "chartMores", unfollowed := true, recurses := true, plainKeys := false, apart := false }
def ChartMoresSaid : Prop := chartMoresRow.holds Try.pinned (OpenSpec.ofChange chartMoresSpec)

/-- ITS FALSE NEIGHBOUR: 'it returns false'. Refute it at one input. -/
def chartMoresWrong : ChangeSpec := { name := "chartMores", fn := fun _ => fun
  | [d1, d2, d3, d4] => { results := [.lit (.bool false)], args := [d1, d2, d3, d4] }
  | _ => none }
def ChartMoresWrongFalsely : Prop := chartMoresRow.holds Try.pinned (OpenSpec.ofChange chartMoresWrong)

/-- 'tumblehomelaw08.ChartShared': WHATEVER THE INPUT: true; the input reads as it did. -/
def chartSharedSpec : ChangeSpec := { name := "chartShared", fn := fun _ => fun
  | [d1, d2, d3, d4] => { results := [.lit (.bool true)], args := [d1, d2, d3, d4] }
  | _ => none }
def chartSharedRow : OpenClaim := { program := "ytbfhhncmmllblaa", sum := "5658e759cd267e119f5a9103decdb35836a02b6cd466e13edc6eddba41bef749", func := "tumblehome/tumblehomelaw08.ChartShared", spec := "chartShared", unfollowed := true, recurses := true, plainKeys := false, apart := false }
def ChartSharedSaid : Prop := chartSharedRow.holds Try.pinned (OpenSpec.ofChange chartSharedSpec)

/-- ITS FALSE NEIGHBOUR: 'it returns false'. Refute it at one input. -/
def chartSharedWrong : ChangeSpec := { name := "chartShared", fn := fun _ => fun
  | [d1, d2, d3, d4] => { results := [.lit (.bool false)], args := [d1, d2, d3, d4] }
  | _ => none }
def ChartSharedWrongFalsely : Prop := chartSharedRow.holds Try.pinned (OpenSpec.ofChange chartSharedWrong)

/-- 'tumblehomelaw08.ChartKnown': WHATEVER THE INPUT: true; the input reads as it did. -/
def chartKnownSpec : ChangeSpec := { name := "chartKnown", fn := fun _ => fun
  | [] => { results := [.lit (.bool true)], args := [] }
  | _ => none }
def chartKnownRow : OpenClaim := { program := "ytbfhhncmmllblaa", sum := "5658e759cd267e119f5a9103decdb35836a02b6cd466e13edc6eddba41bef749", func := "tumblehome/tumblehomelaw08.ChartKnown", spec := "chartKnown", unfollowed := true, recurses := true, plainKeys := false, apart := false }
def ChartKnownSaid : Prop := chartKnownRow.holds Try.pinned (OpenSpec.ofChange chartKnownSpec)

/-- ITS FALSE NEIGHBOUR: 'it returns false'. Refute it at one input. -/
def chartKnownWrong : ChangeSpec := { name := "chartKnown", fn := fun _ => fun
  | [] => { results := [.lit (.bool false)], args := [] }
  | _ => none }
def ChartKnownWrongFalsely : Prop := chartKnownRow.holds Try.pinned (OpenSpec.ofChange chartKnownWrong)

/- THE SECOND FORM. 'bulk': how many values and letters a reading holds, each counted each time it is reached (what is shared counts as often as it is met; a slice's spare places count too). A statement '..UptoSaid' is the law's where the arguments, and the package variables that the reading takes, are together of bulk at most 1048576: NARROWER than '..Said'. Prove '..Said' where nothing that the law and all that it calls make is longer than what came in: it says more and counts as full. Else prove '..UptoSaid'. A law counts once. -/
mutual
def uptoBulk {H : Type} : DataW H → Nat
  | .lit (.string bytes) => bytes.length + 1
  | .lit _ => 1
  | .nil => 1
  | .ptr d => uptoBulk d + 1
  | .slice elems spare => uptoBulkAll elems + uptoBulkAll spare + 1
  | .agg parts => uptoBulkAll parts + 1
  | .iface _ d => uptoBulk d + 1
  | .map entries => uptoBulkEntries entries + 1
  | .held _ => 1
def uptoBulkAll {H : Type} : List (DataW H) → Nat
  | [] => 0
  | d :: r => uptoBulk d + uptoBulkAll r
def uptoBulkEntries {H : Type} : List (Lit × DataW H) → Nat
  | [] => 0
  | x :: r => uptoBulkEntry x + uptoBulkEntries r
def uptoBulkEntry {H : Type} : Lit × DataW H → Nat
  | (.string bytes, d) => bytes.length + uptoBulk d + 1
  | (_, d) => uptoBulk d + 1
 end
def uptoSmall : (H : Type) → List (DataW H) → Bool := fun _ ds => decide (uptoBulkAll ds ≤ 1048576)
def OpenSpec.upto (s : _root_.Go.ChangeSpec) : _root_.Go.OpenSpec := { _root_.Go.OpenSpec.ofChange s with cond := some uptoSmall }

/-- 'tumblehomelaw08.ChartValues', WHERE WHAT IT READS IS OF BULK AT MOST 1048576: true; the input reads as it did. -/
def chartValuesUptoRow : OpenClaim := { program := "ytbfhhncmmllblaa", sum := "5658e759cd267e119f5a9103decdb35836a02b6cd466e13edc6eddba41bef749", func := "tumblehome/tumblehomelaw08.ChartValues", spec := "chartValues", unfollowed := true, recurses := true, plainKeys := false, apart := false, narrowed := true }
def ChartValuesUptoSaid : Prop := chartValuesUptoRow.holds Try.pinned (OpenSpec.upto chartValuesSpec)

/-- 'tumblehomelaw08.ChartMeets', WHERE WHAT IT READS IS OF BULK AT MOST 1048576: true; the input reads as it did. -/
def chartMeetsUptoRow : OpenClaim := { program := "ytbfhhncmmllblaa", sum := "5658e759cd267e119f5a9103decdb35836a02b6cd466e13edc6eddba41bef749", func := "tumblehome/tumblehomelaw08.ChartMeets", spec := "chartMeets", unfollowed := true, recurses := true, plainKeys := false, apart := false, narrowed := true }
def ChartMeetsUptoSaid : Prop := chartMeetsUptoRow.holds Try.pinned (OpenSpec.upto chartMeetsSpec)

/-- 'tumblehomelaw08.ChartSures', WHERE WHAT IT READS IS OF BULK AT MOST 1048576: true; the input reads as it did. -/
def chartSuresUptoRow : OpenClaim := { program := "ytbfhhncmmllblaa", sum := "5658e759cd267e119f5a9103decdb35836a02b6cd466e13edc6eddba41bef749", func := "tumblehome/tumblehomelaw08.ChartSures", spec := "chartSures", unfollowed := true, recurses := true, plainKeys := false, apart := false, narrowed := true }
def ChartSuresUptoSaid : Prop := chartSuresUptoRow.holds Try.pinned (OpenSpec.upto chartSuresSpec)

/-- 'tumblehomelaw08.ChartWithin', WHERE WHAT IT READS IS OF BULK AT MOST 1048576: true; the input reads as it did. -/
def chartWithinUptoRow : OpenClaim := { program := "ytbfhhncmmllblaa", sum := "5658e759cd267e119f5a9103decdb35836a02b6cd466e13edc6eddba41bef749", func := "tumblehome/tumblehomelaw08.ChartWithin", spec := "chartWithin", unfollowed := true, recurses := true, plainKeys := false, apart := false, narrowed := true }
def ChartWithinUptoSaid : Prop := chartWithinUptoRow.holds Try.pinned (OpenSpec.upto chartWithinSpec)

/-- 'tumblehomelaw08.ChartMet', WHERE WHAT IT READS IS OF BULK AT MOST 1048576: true; the input reads as it did. -/
def chartMetUptoRow : OpenClaim := { program := "ytbfhhncmmllblaa", sum := "5658e759cd267e119f5a9103decdb35836a02b6cd466e13edc6eddba41bef749", func := "tumblehome/tumblehomelaw08.ChartMet", spec := "chartMet", unfollowed := true, recurses := true, plainKeys := false, apart := false, narrowed := true }
def ChartMetUptoSaid : Prop := chartMetUptoRow.holds Try.pinned (OpenSpec.upto chartMetSpec)

/-- 'tumblehomelaw08.ChartBest', WHERE WHAT IT READS IS OF BULK AT MOST 1048576: true; the input reads as it did. -/
def chartBestUptoRow : OpenClaim := { program := "ytbfhhncmmllblaa", sum := "5658e759cd267e119f5a9103decdb35836a02b6cd466e13edc6eddba41bef749", func := "tumblehome/tumblehomelaw08.ChartBest", spec := "chartBest", unfollowed := true, recurses := true, plainKeys := false, apart := false, narrowed := true }
def ChartBestUptoSaid : Prop := chartBestUptoRow.holds Try.pinned (OpenSpec.upto chartBestSpec)

/-- 'tumblehomelaw08.ChartFiner', WHERE WHAT IT READS IS OF BULK AT MOST 1048576: true; the input reads as it did. -/
def chartFinerUptoRow : OpenClaim := { program := "ytbfhhncmmllblaa", sum := "5658e759cd267e119f5a9103decdb35836a02b6cd466e13edc6eddba41bef749", func := "tumblehome/tumblehomelaw08.ChartFiner", spec := "chartFiner", unfollowed := true, recurses := true, plainKeys := false, apart := false, narrowed := true }
def ChartFinerUptoSaid : Prop := chartFinerUptoRow.holds Try.pinned (OpenSpec.upto chartFinerSpec)

/-- 'tumblehomelaw08.ChartMores', WHERE WHAT IT READS IS OF BULK AT MOST 1048576: true; the input reads as it did. -/
def chartMoresUptoRow : OpenClaim := { program := "ytbfhhncmmllblaa", sum := "5658e759cd267e119f5a9103decdb35836a02b6cd466e13edc6eddba41bef749", func := "tumblehome/tumblehomelaw08.ChartMores", spec := "chartMores", unfollowed := true, recurses := true, plainKeys := false, apart := false, narrowed := true }
def ChartMoresUptoSaid : Prop := chartMoresUptoRow.holds Try.pinned (OpenSpec.upto chartMoresSpec)

/-- 'tumblehomelaw08.ChartShared', WHERE WHAT IT READS IS OF BULK AT MOST 1048576: true; the input reads as it did. -/
def chartSharedUptoRow : OpenClaim := { program := "ytbfhhncmmllblaa", sum := "5658e759cd267e119f5a9103decdb35836a02b6cd466e13edc6eddba41bef749", func := "tumblehome/tumblehomelaw08.ChartShared", spec := "chartShared", unfollowed := true, recurses := true, plainKeys := false, apart := false, narrowed := true }
def ChartSharedUptoSaid : Prop := chartSharedUptoRow.holds Try.pinned (OpenSpec.upto chartSharedSpec)

/-- 'tumblehomelaw08.ChartKnown', WHERE WHAT IT READS IS OF BULK AT MOST 1048576: true; the input reads as it did. -/
def chartKnownUptoRow : OpenClaim := { program := "ytbfhhncmmllblaa", sum := "5658e759cd267e119f5a9103decdb35836a02b6cd466e13edc6eddba41bef749", func := "tumblehome/tumblehomelaw08.ChartKnown", spec := "chartKnown", unfollowed := true, recurses := true, plainKeys := false, apart := false, narrowed := true }
def ChartKnownUptoSaid : Prop := chartKnownUptoRow.holds Try.pinned (OpenSpec.upto chartKnownSpec)

end Rows
end Go.Proofs.Ytbfhhncmmllblaa
