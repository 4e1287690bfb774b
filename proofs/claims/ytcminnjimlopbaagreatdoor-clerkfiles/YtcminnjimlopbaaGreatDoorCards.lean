/-
  DERIVED. GIVEN WITH THE SEED: THE CARDS: each row of YtcminnjimlopbaaGreatDoorRows.lean that lists a variable, with what it lists TIED to the program's text (the seventh form; the later family's looks); each row that meets fmt, with fmt's text TOLD by the authors' own Lean function (tested against real Go, not proved from fmt's source: count such statements apart). THE CARD IS WHAT COUNTS. Prove the row's statement (the work); the ties are given (YtcminnjimlopbaaGreatDoorTie.lean); close each card by the builder's one call (the guide's Derived/Test/ToyasCard.lean, 'card_holds'). Laid BY PROGRAM, IN A SANDBOX (cutbox-door.mjs). By AI agents, Wed Nov 11 2026. No macro, syntax, notation, axiom, sorry.
-/
import Derived.Test.YtcminnjimlopbaaGreatDoorRows
import GoSem.ClaimSeven
namespace Go.Proofs.YtcminnjimlopbaaGreatDoor
namespace Rows

/-- THE TIED CARD OF 'tumblehomelaw12.ClerkReplays'. -/
def clerkReplaysCard : Claim7 := { stood := { row := clerkReplaysRow, standIns := [], harness := (true, "3cd71195143170d6e8e9e3bbb6e7498e0f4a9401ad31381f0e508956747d3323"), looks := true }, kinds := [], alts := [], laidByText := true, laidKinds := [.data, .data, .data, .data, .pinned], laidTests := true, laidLooks := .later }
def ClerkReplaysCardSaid : Prop := Claim7.holds Tryz.pinned (.plain (OpenSpec.ofChange clerkReplaysSpec)) clerkReplaysCard

/-- THE TIED CARD OF 'tumblehomelaw12.ClerkSeals'. -/
def clerkSealsCard : Claim7 := { stood := { row := clerkSealsRow, standIns := [], harness := (true, "3cd71195143170d6e8e9e3bbb6e7498e0f4a9401ad31381f0e508956747d3323"), looks := true }, kinds := [], alts := [], laidByText := true, laidKinds := [.data, .data, .data, .data, .pinned], laidTests := true, laidLooks := .later }
def ClerkSealsCardSaid : Prop := Claim7.holds Tryz.pinned (.plain (OpenSpec.ofChange clerkSealsSpec)) clerkSealsCard

/-- THE TIED CARD OF 'tumblehomelaw12.ClerkReceipts'. -/
def clerkReceiptsCard : Claim7 := { stood := { row := clerkReceiptsRow, standIns := [], harness := (true, "3cd71195143170d6e8e9e3bbb6e7498e0f4a9401ad31381f0e508956747d3323"), looks := true }, kinds := [], alts := [], laidByText := true, laidKinds := [.data, .data, .data, .data, .pinned], laidTests := true, laidLooks := .later }
def ClerkReceiptsCardSaid : Prop := Claim7.holds Tryz.pinned (.plain (OpenSpec.ofChange clerkReceiptsSpec)) clerkReceiptsCard

/-- THE TIED CARD OF 'tumblehomelaw12.ClerkFiles'. -/
def clerkFilesCard : Claim7 := { stood := { row := clerkFilesRow, standIns := [], harness := (true, "3cd71195143170d6e8e9e3bbb6e7498e0f4a9401ad31381f0e508956747d3323"), looks := true }, kinds := [], alts := [], laidByText := true, laidKinds := [.data, .data, .data, .data, .pinned], laidTests := true, laidLooks := .later }
def ClerkFilesCardSaid : Prop := Claim7.holds Tryz.pinned (.plain (OpenSpec.ofChange clerkFilesSpec)) clerkFilesCard

/-- THE TIED CARD OF 'tumblehomelaw12.ClerkSealed'. -/
def clerkSealedCard : Claim7 := { stood := { row := clerkSealedRow, standIns := [], harness := (true, "3cd71195143170d6e8e9e3bbb6e7498e0f4a9401ad31381f0e508956747d3323"), looks := true }, kinds := [], alts := [], laidByText := true, laidKinds := [.data, .data, .data, .data, .pinned], laidTests := true, laidLooks := .later }
def ClerkSealedCardSaid : Prop := Claim7.holds Tryz.pinned (.plain (OpenSpec.ofChange clerkSealedSpec)) clerkSealedCard

/-- THE TIED CARD OF 'tumblehomelaw12.ClerkBalanced'. -/
def clerkBalancedCard : Claim7 := { stood := { row := clerkBalancedRow, standIns := [], harness := (true, "3cd71195143170d6e8e9e3bbb6e7498e0f4a9401ad31381f0e508956747d3323"), looks := true }, kinds := [], alts := [], laidByText := true, laidKinds := [.data, .data, .data, .data, .pinned], laidTests := true, laidLooks := .later }
def ClerkBalancedCardSaid : Prop := Claim7.holds Tryz.pinned (.plain (OpenSpec.ofChange clerkBalancedSpec)) clerkBalancedCard

/-- THE TIED CARD OF 'tumblehomelaw12.ClerkOn'. -/
def clerkOnCard : Claim7 := { stood := { row := clerkOnRow, standIns := [], harness := (true, "3cd71195143170d6e8e9e3bbb6e7498e0f4a9401ad31381f0e508956747d3323"), looks := true }, kinds := [], alts := [], laidByText := true, laidKinds := [.data, .data, .data, .data, .pinned], laidTests := true, laidLooks := .later }
def ClerkOnCardSaid : Prop := Claim7.holds Tryz.pinned (.plain (OpenSpec.ofChange clerkOnSpec)) clerkOnCard

/-- THE TIED CARD OF 'tumblehomelaw12.ClerkRead'. -/
def clerkReadCard : Claim7 := { stood := { row := clerkReadRow, standIns := [], harness := (true, "3cd71195143170d6e8e9e3bbb6e7498e0f4a9401ad31381f0e508956747d3323"), looks := true }, kinds := [], alts := [], laidByText := true, laidKinds := [.data, .data, .data, .data, .pinned], laidTests := true, laidLooks := .later }
def ClerkReadCardSaid : Prop := Claim7.holds Tryz.pinned (.plain (OpenSpec.ofChange clerkReadSpec)) clerkReadCard

/-- THE TIED CARD OF 'tumblehomelaw12.ClerkKnown'. -/
def clerkKnownCard : Claim7 := { stood := { row := clerkKnownRow, standIns := [], harness := (true, "3cd71195143170d6e8e9e3bbb6e7498e0f4a9401ad31381f0e508956747d3323"), looks := true }, kinds := [], alts := [], laidByText := true, laidKinds := [.data, .data, .data, .data, .pinned], laidTests := true, laidLooks := .later }
def ClerkKnownCardSaid : Prop := Claim7.holds Tryz.pinned (.plain (OpenSpec.ofChange clerkKnownSpec)) clerkKnownCard

/-- THE SECOND FORM's CARD OF 'tumblehomelaw12.ClerkReplays'. -/
def clerkReplaysUptoCard : Claim7 := { stood := { row := clerkReplaysUptoRow, standIns := [], harness := (true, "3cd71195143170d6e8e9e3bbb6e7498e0f4a9401ad31381f0e508956747d3323"), looks := true }, kinds := [], alts := [], laidByText := true, laidKinds := [.data, .data, .data, .data, .pinned], laidTests := true, laidLooks := .later }
def ClerkReplaysUptoCardSaid : Prop := Claim7.holds Tryz.pinned (.plain (OpenSpec.upto clerkReplaysSpec)) clerkReplaysUptoCard

/-- THE SECOND FORM's CARD OF 'tumblehomelaw12.ClerkSeals'. -/
def clerkSealsUptoCard : Claim7 := { stood := { row := clerkSealsUptoRow, standIns := [], harness := (true, "3cd71195143170d6e8e9e3bbb6e7498e0f4a9401ad31381f0e508956747d3323"), looks := true }, kinds := [], alts := [], laidByText := true, laidKinds := [.data, .data, .data, .data, .pinned], laidTests := true, laidLooks := .later }
def ClerkSealsUptoCardSaid : Prop := Claim7.holds Tryz.pinned (.plain (OpenSpec.upto clerkSealsSpec)) clerkSealsUptoCard

/-- THE SECOND FORM's CARD OF 'tumblehomelaw12.ClerkReceipts'. -/
def clerkReceiptsUptoCard : Claim7 := { stood := { row := clerkReceiptsUptoRow, standIns := [], harness := (true, "3cd71195143170d6e8e9e3bbb6e7498e0f4a9401ad31381f0e508956747d3323"), looks := true }, kinds := [], alts := [], laidByText := true, laidKinds := [.data, .data, .data, .data, .pinned], laidTests := true, laidLooks := .later }
def ClerkReceiptsUptoCardSaid : Prop := Claim7.holds Tryz.pinned (.plain (OpenSpec.upto clerkReceiptsSpec)) clerkReceiptsUptoCard

/-- THE SECOND FORM's CARD OF 'tumblehomelaw12.ClerkFiles'. -/
def clerkFilesUptoCard : Claim7 := { stood := { row := clerkFilesUptoRow, standIns := [], harness := (true, "3cd71195143170d6e8e9e3bbb6e7498e0f4a9401ad31381f0e508956747d3323"), looks := true }, kinds := [], alts := [], laidByText := true, laidKinds := [.data, .data, .data, .data, .pinned], laidTests := true, laidLooks := .later }
def ClerkFilesUptoCardSaid : Prop := Claim7.holds Tryz.pinned (.plain (OpenSpec.upto clerkFilesSpec)) clerkFilesUptoCard

/-- THE SECOND FORM's CARD OF 'tumblehomelaw12.ClerkSealed'. -/
def clerkSealedUptoCard : Claim7 := { stood := { row := clerkSealedUptoRow, standIns := [], harness := (true, "3cd71195143170d6e8e9e3bbb6e7498e0f4a9401ad31381f0e508956747d3323"), looks := true }, kinds := [], alts := [], laidByText := true, laidKinds := [.data, .data, .data, .data, .pinned], laidTests := true, laidLooks := .later }
def ClerkSealedUptoCardSaid : Prop := Claim7.holds Tryz.pinned (.plain (OpenSpec.upto clerkSealedSpec)) clerkSealedUptoCard

/-- THE SECOND FORM's CARD OF 'tumblehomelaw12.ClerkBalanced'. -/
def clerkBalancedUptoCard : Claim7 := { stood := { row := clerkBalancedUptoRow, standIns := [], harness := (true, "3cd71195143170d6e8e9e3bbb6e7498e0f4a9401ad31381f0e508956747d3323"), looks := true }, kinds := [], alts := [], laidByText := true, laidKinds := [.data, .data, .data, .data, .pinned], laidTests := true, laidLooks := .later }
def ClerkBalancedUptoCardSaid : Prop := Claim7.holds Tryz.pinned (.plain (OpenSpec.upto clerkBalancedSpec)) clerkBalancedUptoCard

/-- THE SECOND FORM's CARD OF 'tumblehomelaw12.ClerkOn'. -/
def clerkOnUptoCard : Claim7 := { stood := { row := clerkOnUptoRow, standIns := [], harness := (true, "3cd71195143170d6e8e9e3bbb6e7498e0f4a9401ad31381f0e508956747d3323"), looks := true }, kinds := [], alts := [], laidByText := true, laidKinds := [.data, .data, .data, .data, .pinned], laidTests := true, laidLooks := .later }
def ClerkOnUptoCardSaid : Prop := Claim7.holds Tryz.pinned (.plain (OpenSpec.upto clerkOnSpec)) clerkOnUptoCard

/-- THE SECOND FORM's CARD OF 'tumblehomelaw12.ClerkRead'. -/
def clerkReadUptoCard : Claim7 := { stood := { row := clerkReadUptoRow, standIns := [], harness := (true, "3cd71195143170d6e8e9e3bbb6e7498e0f4a9401ad31381f0e508956747d3323"), looks := true }, kinds := [], alts := [], laidByText := true, laidKinds := [.data, .data, .data, .data, .pinned], laidTests := true, laidLooks := .later }
def ClerkReadUptoCardSaid : Prop := Claim7.holds Tryz.pinned (.plain (OpenSpec.upto clerkReadSpec)) clerkReadUptoCard

/-- THE SECOND FORM's CARD OF 'tumblehomelaw12.ClerkKnown'. -/
def clerkKnownUptoCard : Claim7 := { stood := { row := clerkKnownUptoRow, standIns := [], harness := (true, "3cd71195143170d6e8e9e3bbb6e7498e0f4a9401ad31381f0e508956747d3323"), looks := true }, kinds := [], alts := [], laidByText := true, laidKinds := [.data, .data, .data, .data, .pinned], laidTests := true, laidLooks := .later }
def ClerkKnownUptoCardSaid : Prop := Claim7.holds Tryz.pinned (.plain (OpenSpec.upto clerkKnownSpec)) clerkKnownUptoCard
end Rows
end Go.Proofs.YtcminnjimlopbaaGreatDoor
