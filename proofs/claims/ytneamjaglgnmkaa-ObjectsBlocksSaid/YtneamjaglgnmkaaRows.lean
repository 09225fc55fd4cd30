/-
  No cell of these rows narrows 'for every input' (looked for: loops, veiled, ifaces, maps, wideKeys, modest, calm, conditions, laid).
  DERIVED. THE GIVEN ROWS OF THIS SEAT. 3 by the template 'for every input the law returns true; each argument reads behind the call as it read before'; 0 by the template 'total and deterministic' (their statements: YtneamjaglgnmkaaTotals.lean).
  GIVEN WITH THE SEED: the statements are not yours to turn. If you find one false, say at which input.
  Laid BY PROGRAM, IN A SANDBOX (cutbox-rows.mjs): the forced cells as the released guide's own fill.sh prints them over the translation 5ddd32ac87c24f46… (all of the seat's roots in one cut). By AI agents, Wed Nov 11 2026. No macro, syntax, notation, axiom, sorry.
-/
import Derived.Test.YtneamjaglgnmkaaChecked
import GoSem.Claim
import GoSem.ClaimJoined
import GoSem.ClaimMapViews
import Derived.JoinedTies
import Derived.KernelRfl
namespace Go.Proofs.Ytneamjaglgnmkaa
/- THE CELL 'sum', in the pinned program and in every row, IS THE sha256 OF THE DUMP (.gsa) THAT YtneamjaglgnmkaaProg.lean LOADS. Nothing in Lean hashes anything: it is a label: what it is worth is what the hold of that sum in a sandbox is worth. -/
noncomputable def Try.pinned : Pinned := { name := "ytneamjaglgnmkaa", sum := "5ddd32ac87c24f46de729ad9fc1beaa604f809282613f83c006c4a6a494ef18c", checked := Try.checked }
namespace Rows
def none {H : Type} : Left H := { results := [], args := [] }

/-- 'timekeeperlaw18.ObjectsKeep': WHATEVER THE INPUT: true; the input reads as it did. -/
def objectsKeepSpec : ChangeSpec := { name := "objectsKeep", fn := fun _ => fun
  | [d1, d2, d3] => { results := [.lit (.bool true)], args := [d1, d2, d3] }
  | _ => none }
def objectsKeepRow : OpenClaim := { program := "ytneamjaglgnmkaa", sum := "5ddd32ac87c24f46de729ad9fc1beaa604f809282613f83c006c4a6a494ef18c", func := "timekeeper/timekeeperlaw18.ObjectsKeep", spec := "objectsKeep", unfollowed := true, recurses := true, apart := false }
def ObjectsKeepSaid : Prop := objectsKeepRow.holds Try.pinned (OpenSpec.ofChange objectsKeepSpec)

/-- ITS FALSE NEIGHBOUR: 'it returns false'. Refute it at one input. -/
def objectsKeepWrong : ChangeSpec := { name := "objectsKeep", fn := fun _ => fun
  | [d1, d2, d3] => { results := [.lit (.bool false)], args := [d1, d2, d3] }
  | _ => none }
def ObjectsKeepWrongFalsely : Prop := objectsKeepRow.holds Try.pinned (OpenSpec.ofChange objectsKeepWrong)

/-- 'timekeeperlaw18.ObjectsRow': WHATEVER THE INPUT: true; the input reads as it did. -/
def objectsRowSpec : ChangeSpec := { name := "objectsRow", fn := fun _ => fun
  | [d1, d2] => { results := [.lit (.bool true)], args := [d1, d2] }
  | _ => none }
def objectsRowRow : OpenClaim := { program := "ytneamjaglgnmkaa", sum := "5ddd32ac87c24f46de729ad9fc1beaa604f809282613f83c006c4a6a494ef18c", func := "timekeeper/timekeeperlaw18.ObjectsRow", spec := "objectsRow", unfollowed := true, recurses := true, apart := false }
def ObjectsRowSaid : Prop := objectsRowRow.holds Try.pinned (OpenSpec.ofChange objectsRowSpec)

/-- ITS FALSE NEIGHBOUR: 'it returns false'. Refute it at one input. -/
def objectsRowWrong : ChangeSpec := { name := "objectsRow", fn := fun _ => fun
  | [d1, d2] => { results := [.lit (.bool false)], args := [d1, d2] }
  | _ => none }
def ObjectsRowWrongFalsely : Prop := objectsRowRow.holds Try.pinned (OpenSpec.ofChange objectsRowWrong)

/-- 'timekeeperlaw18.ObjectsBlocks': WHATEVER THE INPUT: true; the input reads as it did. -/
def objectsBlocksSpec : ChangeSpec := { name := "objectsBlocks", fn := fun _ => fun
  | [d1, d2] => { results := [.lit (.bool true)], args := [d1, d2] }
  | _ => none }
def objectsBlocksRow : OpenClaim := { program := "ytneamjaglgnmkaa", sum := "5ddd32ac87c24f46de729ad9fc1beaa604f809282613f83c006c4a6a494ef18c", func := "timekeeper/timekeeperlaw18.ObjectsBlocks", spec := "objectsBlocks", unfollowed := true, recurses := true, apart := false }
def ObjectsBlocksSaid : Prop := objectsBlocksRow.holds Try.pinned (OpenSpec.ofChange objectsBlocksSpec)

/-- ITS FALSE NEIGHBOUR: 'it returns false'. Refute it at one input. -/
def objectsBlocksWrong : ChangeSpec := { name := "objectsBlocks", fn := fun _ => fun
  | [d1, d2] => { results := [.lit (.bool false)], args := [d1, d2] }
  | _ => none }
def ObjectsBlocksWrongFalsely : Prop := objectsBlocksRow.holds Try.pinned (OpenSpec.ofChange objectsBlocksWrong)

/- THE SECOND FORM. 'bulk': how many values and letters a reading holds, each counted each time it is reached (what is shared counts as often as it is met; a slice's spare places count too). A statement '..UptoSaid' is the law's where the arguments, and the package variables that the reading takes, are together of bulk at most 1048576: NARROWER than '..Said'. Prove '..Said' where nothing that the law and all that it calls make is longer than what came in: it says more and counts as full. Else prove '..UptoSaid'. A law counts once. -/
mutual
def uptoBulk {H : Type} : DataW H → Nat
  | .lit (.string bytes) => bytes.length + 1
  | .lit _ => 1
  | .nil => 1
  | .ptr d => uptoBulk d + 1
  | .slice elems spare => uptoBulkAll elems + uptoBulkAll spare + 1
  | .agg parts => uptoBulkAll parts + 1
  | .iface _ d => uptoBulk d + 1
  | .map entries => uptoBulkEntries entries + 1
  | .held _ => 1
def uptoBulkAll {H : Type} : List (DataW H) → Nat
  | [] => 0
  | d :: r => uptoBulk d + uptoBulkAll r
def uptoBulkEntries {H : Type} : List (Lit × DataW H) → Nat
  | [] => 0
  | x :: r => uptoBulkEntry x + uptoBulkEntries r
def uptoBulkEntry {H : Type} : Lit × DataW H → Nat
  | (.string bytes, d) => bytes.length + uptoBulk d + 1
  | (_, d) => uptoBulk d + 1
 end
def uptoSmall : (H : Type) → List (DataW H) → Bool := fun _ ds => decide (uptoBulkAll ds ≤ 1048576)
def OpenSpec.upto (s : _root_.Go.ChangeSpec) : _root_.Go.OpenSpec := { _root_.Go.OpenSpec.ofChange s with cond := some uptoSmall }

/-- 'timekeeperlaw18.ObjectsKeep', WHERE WHAT IT READS IS OF BULK AT MOST 1048576: true; the input reads as it did. -/
def objectsKeepUptoRow : OpenClaim := { program := "ytneamjaglgnmkaa", sum := "5ddd32ac87c24f46de729ad9fc1beaa604f809282613f83c006c4a6a494ef18c", func := "timekeeper/timekeeperlaw18.ObjectsKeep", spec := "objectsKeep", unfollowed := true, recurses := true, apart := false, narrowed := true }
def ObjectsKeepUptoSaid : Prop := objectsKeepUptoRow.holds Try.pinned (OpenSpec.upto objectsKeepSpec)

/-- 'timekeeperlaw18.ObjectsRow', WHERE WHAT IT READS IS OF BULK AT MOST 1048576: true; the input reads as it did. -/
def objectsRowUptoRow : OpenClaim := { program := "ytneamjaglgnmkaa", sum := "5ddd32ac87c24f46de729ad9fc1beaa604f809282613f83c006c4a6a494ef18c", func := "timekeeper/timekeeperlaw18.ObjectsRow", spec := "objectsRow", unfollowed := true, recurses := true, apart := false, narrowed := true }
def ObjectsRowUptoSaid : Prop := objectsRowUptoRow.holds Try.pinned (OpenSpec.upto objectsRowSpec)

/-- 'timekeeperlaw18.ObjectsBlocks', WHERE WHAT IT READS IS OF BULK AT MOST 1048576: true; the input reads as it did. -/
def objectsBlocksUptoRow : OpenClaim := { program := "ytneamjaglgnmkaa", sum := "5ddd32ac87c24f46de729ad9fc1beaa604f809282613f83c006c4a6a494ef18c", func := "timekeeper/timekeeperlaw18.ObjectsBlocks", spec := "objectsBlocks", unfollowed := true, recurses := true, apart := false, narrowed := true }
def ObjectsBlocksUptoSaid : Prop := objectsBlocksUptoRow.holds Try.pinned (OpenSpec.upto objectsBlocksSpec)

end Rows
end Go.Proofs.Ytneamjaglgnmkaa
