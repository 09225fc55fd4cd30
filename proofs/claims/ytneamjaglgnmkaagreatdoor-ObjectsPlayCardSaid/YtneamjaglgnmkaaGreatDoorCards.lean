/-
  DERIVED. GIVEN WITH THE SEED: THE CARDS: each row of YtneamjaglgnmkaaGreatDoorRows.lean that lists a variable, with what it lists TIED to the program's text (the seventh form; the later family's looks); each row that meets fmt, with fmt's text TOLD by the authors' own Lean function (tested against real Go, not proved from fmt's source: count such statements apart). THE CARD IS WHAT COUNTS. Prove the row's statement (the work); the ties are given (YtneamjaglgnmkaaGreatDoorTie.lean); close each card by the builder's one call (the guide's Derived/Test/ToyasCard.lean, 'card_holds'). Laid BY PROGRAM, IN A SANDBOX (cutbox-door.mjs). By AI agents, Wed Nov 11 2026. No macro, syntax, notation, axiom, sorry.
-/
import Derived.Test.YtneamjaglgnmkaaGreatDoorRows
import GoSem.ClaimSeven
namespace Go.Proofs.YtneamjaglgnmkaaGreatDoor
namespace Rows

/-- THE TIED CARD OF 'timekeeperlaw18.ObjectsPlay'. -/
def objectsPlayCard : Claim7 := { stood := { row := objectsPlayRow, standIns := [], harness := (true, "3a78e20985590e3bd7d2842a246bb91b630ca80f461c6e2a5ed59b9bd6c849db"), looks := true }, kinds := [], alts := [], laidByText := true, laidKinds := [.data, .data, .data], laidTests := true, laidLooks := .later }
def ObjectsPlayCardSaid : Prop := Claim7.holds Tryz.pinned (.plain (OpenSpec.ofChange objectsPlaySpec)) objectsPlayCard

/-- THE SECOND FORM's CARD OF 'timekeeperlaw18.ObjectsPlay'. -/
def objectsPlayUptoCard : Claim7 := { stood := { row := objectsPlayUptoRow, standIns := [], harness := (true, "3a78e20985590e3bd7d2842a246bb91b630ca80f461c6e2a5ed59b9bd6c849db"), looks := true }, kinds := [], alts := [], laidByText := true, laidKinds := [.data, .data, .data], laidTests := true, laidLooks := .later }
def ObjectsPlayUptoCardSaid : Prop := Claim7.holds Tryz.pinned (.plain (OpenSpec.upto objectsPlaySpec)) objectsPlayUptoCard
end Rows
end Go.Proofs.YtneamjaglgnmkaaGreatDoor
