/-
  DERIVED. GIVEN WITH THE SEED: THE CARDS: each row of YtmjcanamfijdjaaDoorRows.lean that lists a variable, with what it lists TIED to the program's text (the seventh form; the later family's looks); each row that meets fmt, with fmt's text TOLD by the authors' own Lean function (tested against real Go, not proved from fmt's source: count such statements apart). THE CARD IS WHAT COUNTS. Prove the row's statement (the work); the ties are given (YtmjcanamfijdjaaDoorTie.lean); close each card by the builder's one call (the guide's Derived/Test/ToyasCard.lean, 'card_holds'). Laid BY PROGRAM, IN A SANDBOX (cutbox-door.mjs). By AI agents, Wed Nov 11 2026. No macro, syntax, notation, axiom, sorry.
-/
import Derived.Test.YtmjcanamfijdjaaDoorRows
import GoSem.ClaimSeven
namespace Go.Proofs.YtmjcanamfijdjaaDoor
namespace Rows

/-- THE TIED CARD OF 'timekeeperlaw07.RingsPlay'. -/
def ringsPlayCard : Claim7 := { stood := { row := ringsPlayRow, standIns := [], harness := (true, "6386eb013a73a8152e74e344bbee3b041e420f2ce97c962f73a621a144da9e46"), looks := false }, kinds := [], alts := [], laidByText := true, laidKinds := [.data, .data, .data], laidTests := true, laidLooks := .later }
def RingsPlayCardSaid : Prop := Claim7.holds Tryd.pinned (.plain (OpenSpec.ofChange ringsPlaySpec)) ringsPlayCard

/-- THE SECOND FORM's CARD OF 'timekeeperlaw07.RingsPlay'. -/
def ringsPlayUptoCard : Claim7 := { stood := { row := ringsPlayUptoRow, standIns := [], harness := (true, "6386eb013a73a8152e74e344bbee3b041e420f2ce97c962f73a621a144da9e46"), looks := false }, kinds := [], alts := [], laidByText := true, laidKinds := [.data, .data, .data], laidTests := true, laidLooks := .later }
def RingsPlayUptoCardSaid : Prop := Claim7.holds Tryd.pinned (.plain (OpenSpec.upto ringsPlaySpec)) ringsPlayUptoCard
end Rows
end Go.Proofs.YtmjcanamfijdjaaDoor
