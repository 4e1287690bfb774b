/-
  DERIVED. GIVEN WITH THE SEED: THE CARDS: each row of YtbgiemgoafjohaaGreatDoorRows.lean that lists a variable, with what it lists TIED to the program's text (the seventh form; the later family's looks); each row that meets fmt, with fmt's text TOLD by the authors' own Lean function (tested against real Go, not proved from fmt's source: count such statements apart). THE CARD IS WHAT COUNTS. Prove the row's statement (the work); the ties are given (YtbgiemgoafjohaaGreatDoorTie.lean); close each card by the builder's one call (the guide's Derived/Test/ToyasCard.lean, 'card_holds'). Laid BY PROGRAM, IN A SANDBOX (cutbox-door.mjs). By AI agents, Wed Nov 11 2026. No macro, syntax, notation, axiom, sorry.
-/
import Derived.Test.YtbgiemgoafjohaaGreatDoorRows
import GoSem.ClaimSeven
namespace Go.Proofs.YtbgiemgoafjohaaGreatDoor
namespace Rows

/-- THE TIED CARD OF 'tumblehometop.TopBilledRuns'. -/
def topBilledRunsCard : Claim7 := { stood := { row := topBilledRunsRow, standIns := [], harness := (true, "3abff374d40fd70558933348d2cc2b7a7fe2ca1da2ab8e8786218a47be747374"), looks := true }, kinds := [], alts := [], laidByText := true, laidKinds := [.data, .data, .data, .pinned, .data], laidTests := true, laidLooks := .later }
def TopBilledRunsCardSaid : Prop := Claim7.holds Tryz.pinned (.plain (OpenSpec.ofChange topBilledRunsSpec)) topBilledRunsCard

/-- THE TIED CARD OF 'tumblehometop.TopPaidTrial'. -/
def topPaidTrialCard : Claim7 := { stood := { row := topPaidTrialRow, standIns := [], harness := (true, "3abff374d40fd70558933348d2cc2b7a7fe2ca1da2ab8e8786218a47be747374"), looks := true }, kinds := [], alts := [], laidByText := true, laidKinds := [.data, .data, .data, .pinned, .data], laidTests := true, laidLooks := .later }
def TopPaidTrialCardSaid : Prop := Claim7.holds Tryz.pinned (.plain (OpenSpec.ofChange topPaidTrialSpec)) topPaidTrialCard

/-- THE TIED CARD OF 'tumblehometop.TopBiasedBooks'. -/
def topBiasedBooksCard : Claim7 := { stood := { row := topBiasedBooksRow, standIns := [], harness := (true, "3abff374d40fd70558933348d2cc2b7a7fe2ca1da2ab8e8786218a47be747374"), looks := true }, kinds := [], alts := [], laidByText := true, laidKinds := [.data, .data, .data, .pinned, .data], laidTests := true, laidLooks := .later }
def TopBiasedBooksCardSaid : Prop := Claim7.holds Tryz.pinned (.plain (OpenSpec.ofChange topBiasedBooksSpec)) topBiasedBooksCard

/-- THE TIED CARD OF 'tumblehometop.TopOneSeal'. -/
def topOneSealCard : Claim7 := { stood := { row := topOneSealRow, standIns := [], harness := (true, "3abff374d40fd70558933348d2cc2b7a7fe2ca1da2ab8e8786218a47be747374"), looks := true }, kinds := [], alts := [], laidByText := true, laidKinds := [.data, .data, .data, .pinned, .data], laidTests := true, laidLooks := .later }
def TopOneSealCardSaid : Prop := Claim7.holds Tryz.pinned (.plain (OpenSpec.ofChange topOneSealSpec)) topOneSealCard

/-- THE TIED CARD OF 'tumblehometop.TopWaxedHull'. -/
def topWaxedHullCard : Claim7 := { stood := { row := topWaxedHullRow, standIns := [], harness := (true, "3abff374d40fd70558933348d2cc2b7a7fe2ca1da2ab8e8786218a47be747374"), looks := true }, kinds := [], alts := [], laidByText := true, laidKinds := [.data, .data, .data, .pinned, .data], laidTests := true, laidLooks := .later }
def TopWaxedHullCardSaid : Prop := Claim7.holds Tryz.pinned (.plain (OpenSpec.ofChange topWaxedHullSpec)) topWaxedHullCard

/-- THE SECOND FORM's CARD OF 'tumblehometop.TopBilledRuns'. -/
def topBilledRunsUptoCard : Claim7 := { stood := { row := topBilledRunsUptoRow, standIns := [], harness := (true, "3abff374d40fd70558933348d2cc2b7a7fe2ca1da2ab8e8786218a47be747374"), looks := true }, kinds := [], alts := [], laidByText := true, laidKinds := [.data, .data, .data, .pinned, .data], laidTests := true, laidLooks := .later }
def TopBilledRunsUptoCardSaid : Prop := Claim7.holds Tryz.pinned (.plain (OpenSpec.upto topBilledRunsSpec)) topBilledRunsUptoCard

/-- THE SECOND FORM's CARD OF 'tumblehometop.TopPaidTrial'. -/
def topPaidTrialUptoCard : Claim7 := { stood := { row := topPaidTrialUptoRow, standIns := [], harness := (true, "3abff374d40fd70558933348d2cc2b7a7fe2ca1da2ab8e8786218a47be747374"), looks := true }, kinds := [], alts := [], laidByText := true, laidKinds := [.data, .data, .data, .pinned, .data], laidTests := true, laidLooks := .later }
def TopPaidTrialUptoCardSaid : Prop := Claim7.holds Tryz.pinned (.plain (OpenSpec.upto topPaidTrialSpec)) topPaidTrialUptoCard

/-- THE SECOND FORM's CARD OF 'tumblehometop.TopBiasedBooks'. -/
def topBiasedBooksUptoCard : Claim7 := { stood := { row := topBiasedBooksUptoRow, standIns := [], harness := (true, "3abff374d40fd70558933348d2cc2b7a7fe2ca1da2ab8e8786218a47be747374"), looks := true }, kinds := [], alts := [], laidByText := true, laidKinds := [.data, .data, .data, .pinned, .data], laidTests := true, laidLooks := .later }
def TopBiasedBooksUptoCardSaid : Prop := Claim7.holds Tryz.pinned (.plain (OpenSpec.upto topBiasedBooksSpec)) topBiasedBooksUptoCard

/-- THE SECOND FORM's CARD OF 'tumblehometop.TopOneSeal'. -/
def topOneSealUptoCard : Claim7 := { stood := { row := topOneSealUptoRow, standIns := [], harness := (true, "3abff374d40fd70558933348d2cc2b7a7fe2ca1da2ab8e8786218a47be747374"), looks := true }, kinds := [], alts := [], laidByText := true, laidKinds := [.data, .data, .data, .pinned, .data], laidTests := true, laidLooks := .later }
def TopOneSealUptoCardSaid : Prop := Claim7.holds Tryz.pinned (.plain (OpenSpec.upto topOneSealSpec)) topOneSealUptoCard

/-- THE SECOND FORM's CARD OF 'tumblehometop.TopWaxedHull'. -/
def topWaxedHullUptoCard : Claim7 := { stood := { row := topWaxedHullUptoRow, standIns := [], harness := (true, "3abff374d40fd70558933348d2cc2b7a7fe2ca1da2ab8e8786218a47be747374"), looks := true }, kinds := [], alts := [], laidByText := true, laidKinds := [.data, .data, .data, .pinned, .data], laidTests := true, laidLooks := .later }
def TopWaxedHullUptoCardSaid : Prop := Claim7.holds Tryz.pinned (.plain (OpenSpec.upto topWaxedHullSpec)) topWaxedHullUptoCard
end Rows
end Go.Proofs.YtbgiemgoafjohaaGreatDoor
