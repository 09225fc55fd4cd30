/-
  DERIVED. GIVEN WITH THE SEED: THE CARDS: each row of YtdbddfbdhgohbaaGreatDoorRows.lean that lists a variable, with what it lists TIED to the program's text (the seventh form; the later family's looks); each row that meets fmt, with fmt's text TOLD by the authors' own Lean function (tested against real Go, not proved from fmt's source: count such statements apart). THE CARD IS WHAT COUNTS. Prove the row's statement (the work); the ties are given (YtdbddfbdhgohbaaGreatDoorTie.lean); close each card by the builder's one call (the guide's Derived/Test/ToyasCard.lean, 'card_holds'). Laid BY PROGRAM, IN A SANDBOX (cutbox-door.mjs). By AI agents, Wed Nov 11 2026. No macro, syntax, notation, axiom, sorry.
-/
import Derived.Test.YtdbddfbdhgohbaaGreatDoorRows
import GoSem.ClaimSeven
namespace Go.Proofs.YtdbddfbdhgohbaaGreatDoor
namespace Rows

/-- THE TIED CARD OF 'timekeeperlaw15.ReadyPlays'. -/
def readyPlaysCard : Claim7 := { stood := { row := readyPlaysRow, standIns := [], harness := (true, "a56f9edee43d52988b7f4c2f120684ad272660f752e5d2586419b97489d4cb8c"), looks := false }, kinds := [], alts := [], laidByText := true, laidKinds := [.data, .data, .data], laidTests := true, laidLooks := .later }
def ReadyPlaysCardSaid : Prop := Claim7.holds Tryz.pinned (.plain (OpenSpec.ofChange readyPlaysSpec)) readyPlaysCard

/-- THE SECOND FORM's CARD OF 'timekeeperlaw15.ReadyPlays'. -/
def readyPlaysUptoCard : Claim7 := { stood := { row := readyPlaysUptoRow, standIns := [], harness := (true, "a56f9edee43d52988b7f4c2f120684ad272660f752e5d2586419b97489d4cb8c"), looks := false }, kinds := [], alts := [], laidByText := true, laidKinds := [.data, .data, .data], laidTests := true, laidLooks := .later }
def ReadyPlaysUptoCardSaid : Prop := Claim7.holds Tryz.pinned (.plain (OpenSpec.upto readyPlaysSpec)) readyPlaysUptoCard
end Rows
end Go.Proofs.YtdbddfbdhgohbaaGreatDoor
