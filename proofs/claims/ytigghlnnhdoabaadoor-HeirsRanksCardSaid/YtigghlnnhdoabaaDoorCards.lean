/-
  DERIVED. GIVEN WITH THE SEED: THE CARDS: each row of YtigghlnnhdoabaaDoorRows.lean that lists a variable, with what it lists TIED to the program's text (the seventh form; the later family's looks); each row that meets fmt, with fmt's text TOLD by the authors' own Lean function (tested against real Go, not proved from fmt's source: count such statements apart). THE CARD IS WHAT COUNTS. Prove the row's statement (the work); the ties are given (YtigghlnnhdoabaaDoorTie.lean); close each card by the builder's one call (the guide's Derived/Test/ToyasCard.lean, 'card_holds'). Laid BY PROGRAM, IN A SANDBOX (cutbox-door.mjs). By AI agents, Wed Nov 11 2026. No macro, syntax, notation, axiom, sorry.
-/
import Derived.Test.YtigghlnnhdoabaaDoorRows
import GoSem.ClaimSeven
namespace Go.Proofs.YtigghlnnhdoabaaDoor
namespace Rows

/-- THE TIED CARD OF 'timekeeperlaw17.HeirsRanks'. -/
def heirsRanksCard : Claim7 := { stood := { row := heirsRanksRow, standIns := [], harness := (true, "c8a4553cca1f6be91870ca8004391e674f6b00da9b8afc97ac73b970e6681d89"), looks := false }, kinds := [], alts := [], laidByText := true, laidKinds := [.data, .data, .data], laidTests := true, laidLooks := .later }
def HeirsRanksCardSaid : Prop := Claim7.holds Tryd.pinned (.plain (OpenSpec.ofChange heirsRanksSpec)) heirsRanksCard

/-- THE SECOND FORM's CARD OF 'timekeeperlaw17.HeirsRanks'. -/
def heirsRanksUptoCard : Claim7 := { stood := { row := heirsRanksUptoRow, standIns := [], harness := (true, "c8a4553cca1f6be91870ca8004391e674f6b00da9b8afc97ac73b970e6681d89"), looks := false }, kinds := [], alts := [], laidByText := true, laidKinds := [.data, .data, .data], laidTests := true, laidLooks := .later }
def HeirsRanksUptoCardSaid : Prop := Claim7.holds Tryd.pinned (.plain (OpenSpec.upto heirsRanksSpec)) heirsRanksUptoCard
end Rows
end Go.Proofs.YtigghlnnhdoabaaDoor
