/-
  DERIVED. GIVEN WITH THE SEED: THE CARDS: each row of YtiakbgdeanllnaaDoorRows.lean that lists a variable, with what it lists TIED to the program's text (the seventh form; the later family's looks); each row that meets fmt, with fmt's text TOLD by the authors' own Lean function (tested against real Go, not proved from fmt's source: count such statements apart). THE CARD IS WHAT COUNTS. Prove the row's statement (the work); the ties are given (YtiakbgdeanllnaaDoorTie.lean); close each card by the builder's one call (the guide's Derived/Test/ToyasCard.lean, 'card_holds'). Laid BY PROGRAM, IN A SANDBOX (cutbox-door.mjs). By AI agents, Wed Nov 11 2026. No macro, syntax, notation, axiom, sorry.
-/
import Derived.Test.YtiakbgdeanllnaaDoorRows
import GoSem.ClaimSeven
namespace Go.Proofs.YtiakbgdeanllnaaDoor
namespace Rows

/-- THE TIED CARD OF 'timekeeperlaw16.WaitsPlay'. -/
def waitsPlayCard : Claim7 := { stood := { row := waitsPlayRow, standIns := [], harness := (true, "db5681c76e0dc3fe7cd01b87ed01e1ef33ca161e589c81540b0faed9487d9579"), looks := false }, kinds := [], alts := [], laidByText := true, laidKinds := [.data, .data, .data], laidTests := true, laidLooks := .later }
def WaitsPlayCardSaid : Prop := Claim7.holds Tryd.pinned (.plain (OpenSpec.ofChange waitsPlaySpec)) waitsPlayCard

/-- THE SECOND FORM's CARD OF 'timekeeperlaw16.WaitsPlay'. -/
def waitsPlayUptoCard : Claim7 := { stood := { row := waitsPlayUptoRow, standIns := [], harness := (true, "db5681c76e0dc3fe7cd01b87ed01e1ef33ca161e589c81540b0faed9487d9579"), looks := false }, kinds := [], alts := [], laidByText := true, laidKinds := [.data, .data, .data], laidTests := true, laidLooks := .later }
def WaitsPlayUptoCardSaid : Prop := Claim7.holds Tryd.pinned (.plain (OpenSpec.upto waitsPlaySpec)) waitsPlayUptoCard
end Rows
end Go.Proofs.YtiakbgdeanllnaaDoor
