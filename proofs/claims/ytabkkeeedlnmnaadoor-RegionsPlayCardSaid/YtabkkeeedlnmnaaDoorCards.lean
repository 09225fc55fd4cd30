/-
  DERIVED. GIVEN WITH THE SEED: THE CARDS: each row of YtabkkeeedlnmnaaDoorRows.lean that lists a variable, with what it lists TIED to the program's text (the seventh form; the later family's looks); each row that meets fmt, with fmt's text TOLD by the authors' own Lean function (tested against real Go, not proved from fmt's source: count such statements apart). THE CARD IS WHAT COUNTS. Prove the row's statement (the work); the ties are given (YtabkkeeedlnmnaaDoorTie.lean); close each card by the builder's one call (the guide's Derived/Test/ToyasCard.lean, 'card_holds'). Laid BY PROGRAM, IN A SANDBOX (cutbox-door.mjs). By AI agents, Wed Nov 11 2026. No macro, syntax, notation, axiom, sorry.
-/
import Derived.Test.YtabkkeeedlnmnaaDoorRows
import GoSem.ClaimSeven
namespace Go.Proofs.YtabkkeeedlnmnaaDoor
namespace Rows

/-- THE TIED CARD OF 'timekeeperlaw06.LaddersLists'. -/
def laddersListsCard : Claim7 := { stood := { row := laddersListsRow, standIns := [], harness := (true, "230ab664689968f8a63aa818571740d2292364dca2a26fef9420d86581396090"), looks := false }, kinds := [], alts := [], laidByText := true, laidKinds := [.data, .data, .data], laidTests := true, laidLooks := .later }
def LaddersListsCardSaid : Prop := Claim7.holds Tryd.pinned (.plain (OpenSpec.ofChange laddersListsSpec)) laddersListsCard

/-- THE TIED CARD OF 'timekeeperlaw08.HandlesPlay'. -/
def handlesPlayCard : Claim7 := { stood := { row := handlesPlayRow, standIns := [], harness := (true, "230ab664689968f8a63aa818571740d2292364dca2a26fef9420d86581396090"), looks := false }, kinds := [], alts := [], laidByText := true, laidKinds := [.data, .data, .data], laidTests := true, laidLooks := .later }
def HandlesPlayCardSaid : Prop := Claim7.holds Tryd.pinned (.plain (OpenSpec.ofChange handlesPlaySpec)) handlesPlayCard

/-- THE TIED CARD OF 'timekeeperlaw04.RegionsPlay'. -/
def regionsPlayCard : Claim7 := { stood := { row := regionsPlayRow, standIns := [], harness := (true, "230ab664689968f8a63aa818571740d2292364dca2a26fef9420d86581396090"), looks := false }, kinds := [], alts := [], laidByText := true, laidKinds := [.data, .data, .data], laidTests := true, laidLooks := .later }
def RegionsPlayCardSaid : Prop := Claim7.holds Tryd.pinned (.plain (OpenSpec.ofChange regionsPlaySpec)) regionsPlayCard

/-- THE TIED CARD OF 'timekeeperlaw11.QueuesPlay'. -/
def queuesPlayCard : Claim7 := { stood := { row := queuesPlayRow, standIns := [], harness := (true, "230ab664689968f8a63aa818571740d2292364dca2a26fef9420d86581396090"), looks := false }, kinds := [], alts := [], laidByText := true, laidKinds := [.data, .data, .data], laidTests := true, laidLooks := .later }
def QueuesPlayCardSaid : Prop := Claim7.holds Tryd.pinned (.plain (OpenSpec.ofChange queuesPlaySpec)) queuesPlayCard

/-- THE TIED CARD OF 'timekeeperlaw05.PoolsPlay'. -/
def poolsPlayCard : Claim7 := { stood := { row := poolsPlayRow, standIns := [], harness := (true, "230ab664689968f8a63aa818571740d2292364dca2a26fef9420d86581396090"), looks := false }, kinds := [], alts := [], laidByText := true, laidKinds := [.data, .data, .data], laidTests := true, laidLooks := .later }
def PoolsPlayCardSaid : Prop := Claim7.holds Tryd.pinned (.plain (OpenSpec.ofChange poolsPlaySpec)) poolsPlayCard

/-- THE SECOND FORM's CARD OF 'timekeeperlaw06.LaddersLists'. -/
def laddersListsUptoCard : Claim7 := { stood := { row := laddersListsUptoRow, standIns := [], harness := (true, "230ab664689968f8a63aa818571740d2292364dca2a26fef9420d86581396090"), looks := false }, kinds := [], alts := [], laidByText := true, laidKinds := [.data, .data, .data], laidTests := true, laidLooks := .later }
def LaddersListsUptoCardSaid : Prop := Claim7.holds Tryd.pinned (.plain (OpenSpec.upto laddersListsSpec)) laddersListsUptoCard

/-- THE SECOND FORM's CARD OF 'timekeeperlaw08.HandlesPlay'. -/
def handlesPlayUptoCard : Claim7 := { stood := { row := handlesPlayUptoRow, standIns := [], harness := (true, "230ab664689968f8a63aa818571740d2292364dca2a26fef9420d86581396090"), looks := false }, kinds := [], alts := [], laidByText := true, laidKinds := [.data, .data, .data], laidTests := true, laidLooks := .later }
def HandlesPlayUptoCardSaid : Prop := Claim7.holds Tryd.pinned (.plain (OpenSpec.upto handlesPlaySpec)) handlesPlayUptoCard

/-- THE SECOND FORM's CARD OF 'timekeeperlaw04.RegionsPlay'. -/
def regionsPlayUptoCard : Claim7 := { stood := { row := regionsPlayUptoRow, standIns := [], harness := (true, "230ab664689968f8a63aa818571740d2292364dca2a26fef9420d86581396090"), looks := false }, kinds := [], alts := [], laidByText := true, laidKinds := [.data, .data, .data], laidTests := true, laidLooks := .later }
def RegionsPlayUptoCardSaid : Prop := Claim7.holds Tryd.pinned (.plain (OpenSpec.upto regionsPlaySpec)) regionsPlayUptoCard

/-- THE SECOND FORM's CARD OF 'timekeeperlaw11.QueuesPlay'. -/
def queuesPlayUptoCard : Claim7 := { stood := { row := queuesPlayUptoRow, standIns := [], harness := (true, "230ab664689968f8a63aa818571740d2292364dca2a26fef9420d86581396090"), looks := false }, kinds := [], alts := [], laidByText := true, laidKinds := [.data, .data, .data], laidTests := true, laidLooks := .later }
def QueuesPlayUptoCardSaid : Prop := Claim7.holds Tryd.pinned (.plain (OpenSpec.upto queuesPlaySpec)) queuesPlayUptoCard

/-- THE SECOND FORM's CARD OF 'timekeeperlaw05.PoolsPlay'. -/
def poolsPlayUptoCard : Claim7 := { stood := { row := poolsPlayUptoRow, standIns := [], harness := (true, "230ab664689968f8a63aa818571740d2292364dca2a26fef9420d86581396090"), looks := false }, kinds := [], alts := [], laidByText := true, laidKinds := [.data, .data, .data], laidTests := true, laidLooks := .later }
def PoolsPlayUptoCardSaid : Prop := Claim7.holds Tryd.pinned (.plain (OpenSpec.upto poolsPlaySpec)) poolsPlayUptoCard
end Rows
end Go.Proofs.YtabkkeeedlnmnaaDoor
